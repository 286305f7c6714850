/- Laws: which are right; plays; once. -/
import Derived.Test.YtnnhfnjdcomjmaaEx8
namespace Go.Proofs.Ytnnhfnjdcomjmaa
open Go Go.Ev Go.RowKit
open Go.Proofs

def Yes (w : World) (r : Value × World) : Prop := r.1 = .bool true ∧ Bel w r.2

theorem Rows.view {w : World} {r : Value × World} {l : List Exp} (h : Fresh w l r) : View Exp.cs 9 r.2 r.1 l := View.of_owns h.2.1 (Exp.lens l)

theorem same_self (x : Exp) : sameP x x = true := by simp [sameP]

/-! ## Which are right -/

theorem l3 {w : World} {x : Exp} (hx : x.ok) : Brings (s3 x.v w) (Yes w) := by
  unfold s3
  have A := x.new w
  have hb : Bel w (w.alloc (.cells x.cs.toArray 25)) := (Bel.refl w).alloc _
  rw [x.box]
  simp only [go_sem]
  generalize w.alloc (.cells x.cs.toArray 25) = w1 at A hb
  generalize w.heap.size = q at A
  refine k12.bind ?_
  rintro ⟨_, w2⟩ ⟨a, sa, h1, b2, oa, fa⟩
  simp only at h1 b2 oa
  subst h1
  simp only [Exp.all (A.bel b2), go_sem]
  refine (k13 oa hx).bind ?_
  rintro ⟨_, w3⟩ hd
  obtain ⟨rfl, b3, s3, o3, f3⟩ := did_new b2 hd fa
  simp only [Exp.all (A.bel b3), go_sem]
  refine (k13 o3 hx).bind ?_
  rintro ⟨_, w4⟩ hd
  obtain ⟨rfl, b4, s4, o4, f4⟩ := did_new b3 hd f3
  simp only [Exp.all (A.bel b4), go_sem]
  refine k14.bind ?_
  rintro ⟨_, w5⟩ ⟨h1, b5⟩
  simp only at h1 b5
  subst h1
  simp only [go_sem]
  have B5 := b4.trans b5
  cases hr : rightM x with
  | false =>
    have a1 : addM [] x = (2, []) := by simp [addM, hr]
    simp only [a1] at o4 ⊢
    simp only [Bool.not_false, go_sem]
    refine k15.bind ?_
    rintro ⟨_, w6⟩ ⟨h1, b6⟩
    simp only at h1 b6
    subst h1
    have B6 := B5.trans b6
    simp only [Exp.all (A.bel B6), go_sem]
    refine k16.bind ?_
    rintro ⟨_, w7⟩ ⟨h1, b7⟩
    simp only at h1 b7
    subst h1
    simp only [hr, Bool.not_false, beq_self_eq_true, go_sem]
    refine (k17 (o4.bel ((b5.trans b6).trans b7))).bind ?_
    rintro ⟨v, w8⟩ ⟨b8, o8, f8⟩
    simp only at b8 o8
    simp only [(View.of_owns o8 (Exp.lens _)).len und32, List.length_nil, go_sem]
    exact .ret ⟨rfl, ((hb.trans B6).trans b7).trans b8⟩
  | true =>
    have a1 : addM [] x = (0, [x]) := by simp [addM, hr, ownM]
    have a2 : addM [x] x = (10, [x]) := by simp [addM, hr, same_self]
    simp only [a1, a2] at o4 ⊢
    simp only [Bool.not_true, go_sem]
    have bd : Bel w5 w5.drew := (Bel.refl _).drew
    generalize w5.drew = w5' at bd
    refine k15.bind ?_
    rintro ⟨_, w6⟩ ⟨h1, b6⟩
    simp only at h1 b6
    subst h1
    have B6 := (B5.trans bd).trans b6
    simp only [Exp.all (A.bel B6), go_sem]
    refine k16.bind ?_
    rintro ⟨_, w7⟩ ⟨h1, b7⟩
    simp only at h1 b7
    subst h1
    simp only [hr, beq_self_eq_true, go_sem]
    have o7 := o4.bel (((b5.trans bd).trans b6).trans b7)
    refine (k17 o7).bind ?_
    rintro ⟨v, w8⟩ ⟨b8, o8, f8⟩
    simp only at b8 o8
    simp only [(View.of_owns o8 (Exp.lens _)).len und32, show (([x] : List Exp).length : Int) = 1 from rfl, beq_self_eq_true, go_sem]
    refine (k17 (o7.bel b8)).bind ?_
    rintro ⟨v', w9⟩ ⟨b9, o9, f9⟩
    simp only at b9 o9
    obtain ⟨y, g, o, hy, _, hix, hc⟩ := getR (View.of_owns o9 (Exp.lens _)) (n := 0) (by omega) (by simp)
    simp at hy
    subst hy
    have A8 := A.bel ((B6.trans b7).trans b8)
    simp only [hix, Exp.all hc, Exp.all A8, Exp.all (A8.bel b9), Exp.eql, decide_true, eq_self, and_self, go_sem]
    exact .ret ⟨rfl, (((hb.trans B6).trans b7).trans b8).trans b9⟩


theorem law3 {v0 : Value} {n0 : Nat} {w : World} {r0 : Reach} {b0 : Nat} (ho0 : Value.okWide Try.prog w r0 b0 25 v0) (h0 : Okc Try.prog w n0 25 v0.cells.toList) :
    Calls Try.prog 3 #[v0] w fun e w' => e = .returned (.bool true) ∧ Below w.heap.size w w' := by
  obtain ⟨x, rfl, hx⟩ := open25 ho0 h0
  exact law_of (l3 hx) fun _ => c3

theorem deeds {v : Value} {n : Nat} {w : World} {r : Reach} {b : Nat} (ho : Value.okWide Try.prog w r b 35 v) (h : Okc Try.prog w n 35 v.cells.toList) : ∃ ds : List Deed, View Deed.cs 16 w v ds ∧ ∀ x ∈ ds, x.ok :=
  view_okc und35 (by kernel_rfl) (by decide) (cells_slice und35 ho) (fun _ _ h => okc39 h) h

/-! ## Plays -/

theorem l5 {w : World} {s : Value} {ds : List Deed} {x : Deed} (hv : View Deed.cs 16 w s ds) (hok : ∀ x ∈ ds, x.ok) : Brings (s5 s x.v w) (Yes w) := by
  unfold s5
  have A := x.new w
  have hb : Bel w (w.alloc (.cells x.cs.toArray 39)) := (Bel.refl w).alloc _
  rw [x.box]
  simp only [go_sem]
  generalize w.alloc (.cells x.cs.toArray 39) = w1 at A hb
  generalize w.heap.size = p at A
  refine (k18 (hv.bel hb) hok).bind ?_
  rintro ⟨_, w2⟩ ⟨a, sa, b, sb, h1, b2, T, fa, fb⟩
  simp only at h1 b2 T
  subst h1
  simp only [go_sem]
  refine k15.bind ?_
  rintro ⟨_, w3⟩ ⟨h1, b3⟩
  simp only at h1 b3
  subst h1
  have A3 := A.bel (b2.trans b3)
  simp only [Tup.all (Deed.in2 A3), Deed.b3 A3, go_sem]
  refine (k19 (T.bel b3)).bind ?_
  rintro ⟨_, w4⟩ ⟨h1, b4⟩
  simp only at h1 b4
  subst h1
  simp only [go_sem]
  exact .ret ⟨rfl, ((hb.trans b2).trans b3).trans b4⟩

theorem law5 {v0 v1 : Value} {n0 n1 : Nat} {w : World} {r0 r1 : Reach} {b0 b1 : Nat} (ho0 : Value.okWide Try.prog w r0 b0 35 v0) (h0 : Okc Try.prog w n0 35 v0.cells.toList) (ho1 : Value.okWide Try.prog w r1 b1 39 v1) (h1 : Okc Try.prog w n1 39 v1.cells.toList) :
    Calls Try.prog 5 #[v0, v1] w fun e w' => e = .returned (.bool true) ∧ Below w.heap.size w w' := by
  obtain ⟨ds, hv, hok⟩ := deeds ho0 h0
  obtain ⟨x, rfl, hx⟩ := open39 ho1 h1
  exact law_of (l5 hv hok) fun _ => c5

/-! ## What holds of a book behind deeds -/

/-- No two for the same; never more of a master than the limit. -/
structure Inv (l : List Exp) : Prop where
  apart : l.Pairwise fun x y => sameP x y = false
  own : ∀ m, (l.filter (masterP m)).length ≤ 4
  most : l.length ≤ 32

theorem same_comm (x y : Exp) : sameP x y = sameP y x := by
  unfold sameP
  rw [Bool.eq_iff_iff]
  simp only [Bool.and_eq_true, beq_iff_eq]
  constructor <;> (rintro ⟨⟨a, b⟩, c⟩; exact ⟨⟨a.symm, b.symm⟩, c.symm⟩)

theorem Inv.nil : Inv [] := ⟨List.Pairwise.nil, fun m => by simp, by simp⟩
theorem Inv.sub {l m : List Exp} (h : Inv l) (hs : m.Sublist l) : Inv m :=
  ⟨h.apart.sublist hs, fun k => Nat.le_trans (hs.filter _).length_le (h.own k), Nat.le_trans hs.length_le h.most⟩
theorem Inv.add {l : List Exp} {e : Exp} (h : Inv l) : Inv (addM l e).2 := by
  unfold addM
  split
  · exact h
  split
  · exact h
  split
  · exact h
  · rename_i hk hf
    have hk : ∀ x ∈ l, sameP e x = false := by simpa using hk
    refine ⟨?_, fun m => ?_, ?_⟩
    · refine List.pairwise_append.2 ⟨h.apart, by simp, fun x hx y hy => ?_⟩
      simp at hy
      subst hy
      rw [same_comm]; exact hk x hx
    · rw [List.filter_append, List.length_append]
      by_cases he : masterP m e = true
      · have hm : e.master = m := by simpa [masterP] using he
        have : ownM e l < 4 := by omega
        unfold ownM at this
        rw [hm] at this
        have : ([e].filter (masterP m)).length ≤ 1 := Nat.le_trans (List.length_filter_le _ _) (by simp)
        omega
      · have : [e].filter (masterP m) = [] := by simp [he]
        rw [this]
        have := h.own m
        simpa using this
    · simp; omega
theorem Inv.deed {l : List Exp} (h : Inv l) (x : Deed) : Inv (deedM l x) := by
  unfold deedM
  split
  · exact h.add
  split
  · unfold matchM
    split
    · exact h.sub (List.eraseIdx_sublist _ _)
    · exact h
  split
  · exact h.sub List.filter_sublist
  split
  · exact h.sub List.filter_sublist
  · exact h
theorem inv_deeds : ∀ (ds : List Deed) (l : List Exp), Inv l → Inv (deedsM l ds)
  | [], _, h => h
  | x :: ds, _, h => inv_deeds ds _ (h.deed x)

end Go.Proofs.Ytnnhfnjdcomjmaa
