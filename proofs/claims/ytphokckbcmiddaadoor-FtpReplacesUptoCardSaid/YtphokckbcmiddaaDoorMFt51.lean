/- A line replaced, by both: the walk. -/
import Derived.Test.YtphokckbcmiddaaDoorMFt50
namespace Go.Proofs.YtphokckbcmiddaaDoor
open Go Go.Ev Go.RowKit
open Go.Proofs

set_option maxRecDepth 100000 in
theorem step6 {s t : Value} {f : Fnd} {g : Rfd} {l m : List Int} {a0 : Act} {w0 : World} {p4 p7 : Nat} (h0 : a0.tmps.getD 0 undef = s) (h2 : a0.tmps.getD 2 undef = t) (h4 : a0.tmps.getD 4 undef = .pointer (some ⟨p4, 0, none⟩)) (h7 : a0.tmps.getD 7 undef = .pointer (some ⟨p7, 0, none⟩))
    (hf : CellsAt f.cs w0 p4 0) (hg : CellsAt g.cs w0 p7 0) (hT : Tab w0) (hs : Vw w0 s l) (ht : Vw w0 t m) (hl : okB l) (hm : okB m) (ll : l.length ≤ 10000000) (lm : m.length ≤ 10000000) (e1 : g.start = f.start) (e2 : g.end_ = f.end_)
    (hr : -9223372036854775808 ≤ f.start ∧ f.start ≤ 9223372036854775807 ∧ -9223372036854775808 ≤ f.end_ ∧ f.end_ ≤ 9223372036854775807) (hok : okB (Ftp.replS l f.start f.end_ m))
    (S : Nat → Bool) (a : Act) (w : World) (i : Nat) (o : Oper) (h : J6 s t f g (Ftp.replS l f.start f.end_ m) a0 w0 S a w) (ho : ops6[i]? = some o) (hi : S i = false)
    (he : ∀ e ∈ o.after, Region.binds .any e = true → S e.on = true) :
    ∃ v w', (res Tryd.prog ops6 a w o).to w = some (v, w') ∧ J6 s t f g (Ftp.replS l f.start f.end_ m) a0 w0 (fun j => S j || j == i) (a.put o.dst v) w' := by
  have hlt : i < 15 := by rw [← size6]; exact (Array.getElem?_eq_some_iff.1 ho).1
  have hoi : o = o6 i := by unfold o6; rw [ho]; rfl
  subst hoi
  have k0 : a.tmps.getD 0 undef = s := (h.keep 0 (by omega) (by omega)).trans h0
  have k2 : a.tmps.getD 2 undef = t := (h.keep 2 (by omega) (by omega)).trans h2
  have k4 : a.tmps.getD 4 undef = _ := (h.keep 4 (by omega) (by omega)).trans h4
  have k7 : a.tmps.getD 7 undef = _ := (h.keep 7 (by omega) (by omega)).trans h7
  have g1 : S 1 = true → gslot ops6 a 1 = .bool true := fun h1 => (gs6 a).trans (h.tells 1 (by omega) h1)
  have hs' := hs.bel h.bel
  have ht' := ht.bel h.bel
  match i, hlt with
  | 0, _ =>
    obtain ⟨q1, q2, q3⟩ := q0
    obtain ⟨⟨v, w'⟩, hc, hv, hb⟩ := k12 (hT.bel h.bel)
    simp only at hv hb
    subst hv
    refine ⟨.bool true, w', ?_, by rw [q2]; exact h.step (by omega) hb rfl⟩
    unfold res; rw [q1, q3]
    exact hc
  | 1, _ =>
    obtain ⟨q1, q2, q3, q4⟩ := q1
    have s0 : a.tmps.getD 15 undef = .bool true := h.tells 0 (by omega) (edge_S q4 he)
    refine ⟨.bool true, w, ?_, by rw [q2]; exact h.step (by omega) (Bel.refl _) rfl⟩
    unfold res; rw [q1, q3]
    show some (a.eval (.tmp 15), w) = _
    rw [eval_tmp, s0]
  | 2, _ =>
    obtain ⟨q1, q2, q3, q4⟩ := q2
    refine ⟨s, w, ?_, by rw [q2]; exact h.step (by omega) (Bel.refl _) rfl⟩
    unfold res; rw [q1, q3]
    show some (gv (isB (gslot ops6 a 1) true) (a.eval (.tmp 0)), w) = _
    rw [g1 (edge_S q4 he), eval_tmp, k0]; rfl
  | 3, _ =>
    obtain ⟨q1, q2, q3, q4⟩ := q3
    refine ⟨f.v, w, ?_, by rw [q2]; exact h.step (by omega) (Bel.refl _) rfl⟩
    unfold res; rw [q1, q3]
    show (guardQ (gslot ops6 a 1) true (Qload Tryd.prog 27 (a.eval (.tmp 4)) w)).map _ = _
    rw [g1 (edge_S q4 he), eval_tmp, k4, Fnd.all (hf.bel h.bel)]; rfl
  | 4, _ =>
    obtain ⟨q1, q2, q3, q4⟩ := q4
    refine ⟨t, w, ?_, by rw [q2]; exact h.step (by omega) (Bel.refl _) rfl⟩
    unfold res; rw [q1, q3]
    show some (gv (isB (gslot ops6 a 1) true) (a.eval (.tmp 2)), w) = _
    rw [g1 (edge_S q4 he), eval_tmp, k2]; rfl
  | 5, _ =>
    obtain ⟨q1, q2, q3, q4, q5, q6, q7⟩ := q5
    have s2 : a.tmps.getD 17 undef = s := h.tells 2 (by omega) (edge_S q5 he)
    have s3 : a.tmps.getD 18 undef = f.v := h.tells 3 (by omega) (edge_S q6 he)
    have s4 : a.tmps.getD 19 undef = t := h.tells 4 (by omega) (edge_S q7 he)
    obtain ⟨⟨v, w'⟩, hc, hb, hv⟩ := k14 (f := f) hs' ht' (by omega) hr
    simp only at hb hv
    refine ⟨v, w', ?_, by rw [q2]; exact h.step (by omega) hb (Ob.view hv)⟩
    unfold res; rw [q1, q3]
    show guardX (gslot ops6 a 1) true w (Xcall Tryd.prog (a.eval (.func 14)) #[a.eval (.tmp 17), a.eval (.tmp 18), a.eval (.tmp 19)] w) = _
    rw [g1 (edge_S q4 he), eval_tmp, eval_tmp, eval_tmp, s2, s3, s4]
    exact hc
  | 6, _ =>
    obtain ⟨q1, q2, q3, q4, q5⟩ := q6
    have s5 : Vw w (a.tmps.getD 20 undef) (Ftp.replS l f.start f.end_ m) := h.tells 5 (by omega) (edge_S q5 he)
    refine ⟨.string (strOfNums (Ftp.replS l f.start f.end_ m)), w, ?_, by rw [q2]; exact h.step (by omega) (Bel.refl _) rfl⟩
    unfold res; rw [q1, q3]
    show guardX (gslot ops6 a 1) true w (Xconv Tryd.prog 22 9 (a.eval (.tmp 20)) w) = _
    rw [g1 (edge_S q4 he), eval_tmp, vstr s5]; rfl
  | 7, _ =>
    obtain ⟨q1, q2, q3, q4⟩ := q7
    refine ⟨s, w, ?_, by rw [q2]; exact h.step (by omega) (Bel.refl _) rfl⟩
    unfold res; rw [q1, q3]
    show some (gv (isB (gslot ops6 a 1) true) (a.eval (.tmp 0)), w) = _
    rw [g1 (edge_S q4 he), eval_tmp, k0]; rfl
  | 8, _ =>
    obtain ⟨q1, q2, q3, q4⟩ := q8
    refine ⟨g.v, w, ?_, by rw [q2]; exact h.step (by omega) (Bel.refl _) rfl⟩
    unfold res; rw [q1, q3]
    show (guardQ (gslot ops6 a 1) true (Qload Tryd.prog 31 (a.eval (.tmp 7)) w)).map _ = _
    rw [g1 (edge_S q4 he), eval_tmp, k7, Rfd.all (hg.bel h.bel)]; rfl
  | 9, _ =>
    obtain ⟨q1, q2, q3, q4⟩ := q9
    refine ⟨t, w, ?_, by rw [q2]; exact h.step (by omega) (Bel.refl _) rfl⟩
    unfold res; rw [q1, q3]
    show some (gv (isB (gslot ops6 a 1) true) (a.eval (.tmp 2)), w) = _
    rw [g1 (edge_S q4 he), eval_tmp, k2]; rfl
  | 10, _ =>
    obtain ⟨q1, q2, q3, q4, q5, q6, q7⟩ := q10
    have s2 : a.tmps.getD 22 undef = s := h.tells 7 (by omega) (edge_S q5 he)
    have s3 : a.tmps.getD 23 undef = g.v := h.tells 8 (by omega) (edge_S q6 he)
    have s4 : a.tmps.getD 24 undef = t := h.tells 9 (by omega) (edge_S q7 he)
    obtain ⟨⟨v, w'⟩, hc, hb, hv⟩ := k15 (f := g) hs' ht' ll lm
    rw [e1, e2] at hv
    simp only at hb hv
    refine ⟨v, w', ?_, by rw [q2]; exact h.step (by omega) hb (Ob.view hv)⟩
    unfold res; rw [q1, q3]
    show guardX (gslot ops6 a 1) true w (Xcall Tryd.prog (a.eval (.func 15)) #[a.eval (.tmp 22), a.eval (.tmp 23), a.eval (.tmp 24)] w) = _
    rw [g1 (edge_S q4 he), eval_tmp, eval_tmp, eval_tmp, s2, s3, s4]
    exact hc
  | 11, _ =>
    obtain ⟨q1, q2, q3, q4, q5⟩ := q11
    have s5 : Vw w (a.tmps.getD 25 undef) (Ftp.replS l f.start f.end_ m) := h.tells 10 (by omega) (edge_S q5 he)
    refine ⟨.string (strOfNums (Ftp.replS l f.start f.end_ m)), w, ?_, by rw [q2]; exact h.step (by omega) (Bel.refl _) rfl⟩
    unfold res; rw [q1, q3]
    show guardX (gslot ops6 a 1) true w (Xconv Tryd.prog 22 9 (a.eval (.tmp 25)) w) = _
    rw [g1 (edge_S q4 he), eval_tmp, vstr s5]; rfl
  | 12, _ =>
    obtain ⟨q1, q2, q3, q4, q5, q6⟩ := q12
    have s5 : a.tmps.getD 21 undef = .string (strOfNums (Ftp.replS l f.start f.end_ m)) := h.tells 6 (by omega) (edge_S q5 he)
    have s6 : a.tmps.getD 26 undef = .string (strOfNums (Ftp.replS l f.start f.end_ m)) := h.tells 11 (by omega) (edge_S q6 he)
    refine ⟨.bool true, w, ?_, by rw [q2]; exact h.step (by omega) (Bel.refl _) rfl⟩
    unfold res; rw [q1, q3]
    show (guardQ (gslot ops6 a 1) true (Qbin Tryd.prog .eql 9 (a.eval (.tmp 21)) (a.eval (.tmp 26)))).map _ = _
    rw [g1 (edge_S q4 he), eval_tmp, eval_tmp, s5, s6, Qb_eqlS, str_eq hok hok, decide_eq_true rfl]; rfl
  | 13, _ =>
    obtain ⟨q1, q2, q3, q4, q5⟩ := q13
    have s1 : a.tmps.getD 16 undef = .bool true := h.tells 1 (by omega) (edge_S q4 he)
    have s2 : a.tmps.getD 27 undef = .bool true := h.tells 12 (by omega) (edge_S q5 he)
    refine ⟨.bool true, w, ?_, by rw [q2]; exact h.step (by omega) (Bel.refl _) rfl⟩
    unfold res; rw [q1, q3]
    show (Qpick (a.eval (.tmp 16)) (a.eval (.tmp 27)) (a.eval (.const (.bool false)))).map _ = _
    rw [eval_tmp, eval_tmp, s1, s2]; rfl
  | 14, _ =>
    obtain ⟨q1, q2, q3, q4⟩ := q14
    have s2 : a.tmps.getD 28 undef = .bool true := h.tells 13 (by omega) (edge_S q4 he)
    refine ⟨.bool true, w, ?_, by rw [q2]; exact h.step (by omega) (Bel.refl _) rfl⟩
    unfold res; rw [q1, q3]
    show some (a.eval (.tmp 28), w) = _
    rw [eval_tmp, s2]

end Go.Proofs.YtphokckbcmiddaaDoor
