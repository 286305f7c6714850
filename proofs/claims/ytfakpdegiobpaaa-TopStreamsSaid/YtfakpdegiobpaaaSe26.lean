/- A stream with a part: its fields, in whichever order they are read. -/
import Derived.Test.YtfakpdegiobpaaaSe25
namespace Go.Proofs.Ytfakpdegiobpaaa
open Go Go.Ev Go.RowKit
open Go.Proofs

theorem zero51 (w : World) : (zeroValue 51).run Try.prog w = .ok (.agg #[.int .u8 0, .int .u8 0]) w := by kernel_rfl
theorem alloc51 (w : World) : Xalloc Try.prog 51 w = some (.pointer (some ⟨w.heap.size, 0, none⟩), w.alloc (.cells #[.int .u8 0, .int .u8 0] 51)) := Xalloc_eq (zero51 w)
theorem inf51 : ∃ i, Try.prog.info? 51 = some i ∧ i.size = 2 := ⟨(Try.prog.info? 51).get (by kernel_rfl), by kernel_rfl, by kernel_rfl⟩
theorem load51 {w : World} {p o : Nat} {a b : Int} (h : CellsAt [.int .u8 a, .int .u8 b] w p o) : Qload Try.prog 51 (.pointer (some ⟨p, o, none⟩)) w = some (.agg #[.int .u8 a, .int .u8 b]) := by
  obtain ⟨i, hi, hs⟩ := inf51
  exact Qload_array Try.underlying51 hi hs h
theorem at51x0 (q : Nat) (w : World) : QindexAddr Try.prog 51 (.pointer (some ⟨q, 0, none⟩)) (.int .i64 0) w = some (.pointer (some ⟨q, 0, none⟩)) := by kernel_rfl
theorem at51x1 (q : Nat) (w : World) : QindexAddr Try.prog 51 (.pointer (some ⟨q, 0, none⟩)) (.int .i64 1) w = some (.pointer (some ⟨q, 1, none⟩)) := by kernel_rfl
theorem fa53x0 (q : Nat) : QfieldAddr Try.prog 53 (.pointer (some ⟨q, 0, none⟩)) 0 = some (.pointer (some ⟨q, 0, none⟩)) := by kernel_rfl
theorem fa53x1 (q : Nat) : QfieldAddr Try.prog 53 (.pointer (some ⟨q, 0, none⟩)) 1 = some (.pointer (some ⟨q, 1, none⟩)) := by kernel_rfl
theorem fa53x2 (q : Nat) : QfieldAddr Try.prog 53 (.pointer (some ⟨q, 0, none⟩)) 2 = some (.pointer (some ⟨q, 2, none⟩)) := by kernel_rfl
theorem fa53x3 (q : Nat) : QfieldAddr Try.prog 53 (.pointer (some ⟨q, 0, none⟩)) 3 = some (.pointer (some ⟨q, 3, none⟩)) := by kernel_rfl

/-- A stream as it comes in. -/
def strm (b t : Sl) (f x y : Int) : Array Value := #[b.v, t.v, .int .u32 f, .int .u8 x, .int .u8 y]
theorem box53 (b t : Sl) (f x y : Int) (w : World) : Xbox Try.prog 53 (.agg (strm b t f x y)) w = some (.pointer (some ⟨w.heap.size, 0, none⟩), w.alloc (.cells (strm b t f x y) 53)) := nonrfl rfl

/-- few: no more than so many. -/
theorem k25 {w : World} {s : Sl} {l : List By} {n : Nat} (hv : View By.cs 1 w s.v l) : Brings (Xcall Try.prog (Value.func (Fn.func 25) #[] #[]) #[s.v, .int .i64 n] w) (fun r => r.2 = w ∧ ∃ t : Sl, r.1 = t.v ∧ View By.cs 1 w t.v (l.take n) ∧ ∀ k, t.v.ownBlock = some k → s.v.ownBlock = some k) := by
  refine e25 ?_
  unfold s25
  simp only [hv.len By.und34, go_sem]
  obtain ⟨i, hi, hs⟩ := inf5
  refine .cond (fun h => ?_) (fun h => ?_)
  · have h : n < l.length := by
      have : (n : Int) < l.length := by simpa using h
      omega
    obtain ⟨v, e1, e2, e3⟩ := hv.cutHi By.und34 hi hs (n := n) (by omega) (by omega) w
    rw [Int.toNat_natCast] at e2
    simp only [e1, go_sem]
    obtain ⟨x, c, hx, _⟩ := id e2
    subst hx
    exact .ret ⟨rfl, ⟨x, _, c⟩, rfl, e2, e3⟩
  · have h : ¬ n < l.length := by
      have : ¬ (n : Int) < l.length := by simpa using h
      omega
    exact .ret ⟨rfl, s, rfl, by rw [List.take_of_length_le (by omega)]; exact hv, fun _ h => h⟩

theorem view_low {w : World} {v : Value} {l : List By} (h : View By.cs 1 w v l) : l = [] ∨ ∀ k, v.ownBlock = some k → k < w.heap.size := by
  cases l with
  | nil => exact .inl rfl
  | cons b l =>
    obtain ⟨x, cap, rfl, h1, h2, h3, h4⟩ := h
    obtain ⟨g, o, rfl, hc⟩ := h4 0 b rfl
    refine .inr fun k hk => ?_
    injection hk with hk
    have hk : g = k := hk
    subst hk
    have := hc 0 _ rfl
    exact World.block_lt_of_cell? _ _ this
/-- A text that lies among the first n blocks. -/
def Low (n : Nat) (w : World) (v : Value) (l : List By) : Prop := View By.cs 1 w v l ∧ (l = [] ∨ ∀ k, v.ownBlock = some k → k < n)
theorem Low.bel {n : Nat} {w w' : World} {v : Value} {l : List By} (h : Low n w v l) (hb : Bel w w') : Low n w' v l := ⟨h.1.bel hb, h.2⟩
theorem Low.chg {n : Nat} {S : Nat → Prop} {w w' : World} {v : Value} {l : List By} (h : Low n w v l) (hc : Chg S w w') (hs : ∀ k, S k → n ≤ k) : Low n w' v l := by
  refine ⟨?_, h.2⟩
  rcases h.2 with rfl | h2
  · obtain ⟨x, cap, e, h1, h2, h3, h4⟩ := h.1
    exact ⟨x, cap, e, h1, h2, h3, fun k y hy => by simp at hy⟩
  · exact h.1.chg hc fun k hk hS => by have := hs k hS; have := h2 k hk; omega

noncomputable def ops11 : Array Oper := opsOf (nav [1, 0] (bodyOf Try.f11))
noncomputable def o11 (i : Nat) : Oper := (ops11[i]?).getD default
theorem size11 : ops11.size = 15 := by kernel_rfl
def dst11 : Nat → Nat
  | 0 => 17 | 1 => 18 | 2 => 19 | 3 => 20 | 4 => 21 | 5 => 22 | 6 => 23 | 7 => 24 | 8 => 25 | 9 => 26 | 11 => 3 | 12 => 4 | 13 => 5 | _ => 0
theorem dst_inj : ∀ i j, i < 14 → j < 14 → i ≠ 10 → j ≠ 10 → dst11 i = dst11 j → i = j := by
  have : ∀ i j : Fin 14, i.val ≠ 10 → j.val ≠ 10 → dst11 i.val = dst11 j.val → i.val = j.val := by decide +kernel
  intro i j hi hj h1 h2 h3
  exact this ⟨i, hi⟩ ⟨j, hj⟩ h1 h2 h3
theorem dst_lt : ∀ i, i < 14 → i ≠ 10 → dst11 i < 203 ∧ dst11 i ≠ 6 ∧ 3 ≤ dst11 i := by
  have : ∀ i : Fin 14, i.val ≠ 10 → dst11 i.val < 203 ∧ dst11 i.val ≠ 6 ∧ 3 ≤ dst11 i.val := by decide +kernel
  exact fun i hi h => this ⟨i, hi⟩ h

/-- What each operation brings. -/
def tell11 (n : Nat) (p : Nat) (b t : Sl) (B T : List By) (f x y : Int) (w : World) : Nat → Value → Prop
  | 0, v => v = .pointer (some ⟨p, 0, none⟩)
  | 1, v => v = b.v
  | 2, v => ∃ s : Sl, v = s.v ∧ Low n w s.v (B.take 600)
  | 3, v => v = .pointer (some ⟨p, 1, none⟩)
  | 4, v => v = t.v
  | 5, v => ∃ s : Sl, v = s.v ∧ Low n w s.v (T.take 100)
  | 6, v => v = .pointer (some ⟨p, 2, none⟩)
  | 7, v => v = .int .u32 f
  | 8, v => v = .pointer (some ⟨p, 3, none⟩)
  | 9, v => v = .agg #[.int .u8 x, .int .u8 y]
  | 11, v => ∃ s : Sl, v = s.v ∧ Low n w s.v (B.take 600)
  | 12, v => ∃ s : Sl, v = s.v ∧ Low n w s.v (T.take 100)
  | 13, v => v = .int .u32 f
  | _, _ => True
theorem tell_bel {n p : Nat} {b t : Sl} {B T : List By} {f x y : Int} {w w' : World} (hb : Bel w w') {k : Nat} {v : Value} (h : tell11 n p b t B T f x y w k v) : tell11 n p b t B T f x y w' k v := by
  unfold tell11 at h ⊢
  split at h <;> first | exact h | (obtain ⟨s, e, h⟩ := h; exact ⟨s, e, h.bel hb⟩)

structure J11 (p : Nat) (b t : Sl) (B T : List By) (f x y : Int) (a0 : Act) (w0 : World) (S : Nat → Bool) (a : Act) (w : World) : Prop where
  size : a.tmps.size = 203
  keep : ∀ j, j < 3 → a.tmps.getD j undef = a0.tmps.getD j undef
  bel : Bel w0 w
  tells : ∀ k, k < 14 → k ≠ 10 → S k = true → tell11 w0.heap.size p b t B T f x y w k (a.tmps.getD (dst11 k) undef)
  v6 : S 10 = true → ∃ q, a.tmps.getD 6 undef = .pointer (some ⟨q, 0, none⟩) ∧ w0.heap.size ≤ q ∧ (S 14 = false → w.heap[q]? = some (.cells #[.int .u8 0, .int .u8 0] 51)) ∧ (S 14 = true → w.heap[q]? = some (.cells #[.int .u8 x, .int .u8 y] 51))
  last : S 14 = true → S 10 = true

/-- A step of one of the plain operations. -/
theorem J11.step {p : Nat} {b t : Sl} {B T : List By} {f x y : Int} {a0 : Act} {w0 : World} {S : Nat → Bool} {a : Act} {w w' : World} (h : J11 p b t B T f x y a0 w0 S a w) {i : Nat} {v : Value} (hi : i < 14) (h10 : i ≠ 10) (hb : Bel w w') (hv : tell11 w0.heap.size p b t B T f x y w' i v) :
    J11 p b t B T f x y a0 w0 (fun j => S j || j == i) (a.put (some (dst11 i)) v) w' := by
  obtain ⟨d1, d2, d3⟩ := dst_lt i hi h10
  refine ⟨by rw [put_size]; exact h.size, fun j hj => by rw [put_other (by omega)]; exact h.keep j hj, h.bel.trans hb, fun k hk hk10 hs => ?_, fun hs => ?_, fun hs => ?_⟩
  · by_cases e : k = i
    · subst e
      rw [put_same (by rw [h.size]; exact d1)]
      exact hv
    · rw [put_other fun hd => e (dst_inj k i hk hi hk10 h10 hd)]
      have : (k == i) = false := by simpa using e
      simp only [this, Bool.or_false] at hs
      exact tell_bel hb (h.tells k hk hk10 hs)
  · have e1 : ((10 : Nat) == i) = false := by simpa using fun e => h10 e.symm
    have e2 : ((14 : Nat) == i) = false := by simp; omega
    simp only [e1, e2, Bool.or_false] at hs ⊢
    obtain ⟨q, q1, q2, q3, q4⟩ := h.v6 hs
    exact ⟨q, by rw [put_other (fun e => d2 e.symm)]; exact q1, q2, fun hs => hb.at_ (q3 hs), fun hs => hb.at_ (q4 hs)⟩
  · have e1 : ((10 : Nat) == i) = false := by simpa using fun e => h10 e.symm
    have e2 : ((14 : Nat) == i) = false := by simp; omega
    simp only [e1, e2, Bool.or_false] at hs ⊢
    exact h.last hs

theorem q0 : (o11 0).op = .fieldAddr 53 (.tmp 1) 0 ∧ (o11 0).dst = some (dst11 0) ∧ (o11 0).guard = none := ⟨by kernel_rfl, by kernel_rfl, by kernel_rfl⟩
theorem q1 : (o11 1).op = .load 34 (.tmp 17) ∧ (o11 1).dst = some (dst11 1) ∧ (o11 1).guard = none ∧ edgeTo (o11 1) 0 = true := ⟨by kernel_rfl, by kernel_rfl, by kernel_rfl, by kernel_rfl⟩
theorem q2 : (o11 2).op = .call { callee := .value (.func 25), args := #[.tmp 18, .const (.int .i64 600)], argTypes := #[34, 3] } ∧ (o11 2).dst = some (dst11 2) ∧ (o11 2).guard = none ∧ edgeTo (o11 2) 1 = true := ⟨by kernel_rfl, by kernel_rfl, by kernel_rfl, by kernel_rfl⟩
theorem q3 : (o11 3).op = .fieldAddr 53 (.tmp 1) 1 ∧ (o11 3).dst = some (dst11 3) ∧ (o11 3).guard = none := ⟨by kernel_rfl, by kernel_rfl, by kernel_rfl⟩
theorem q4 : (o11 4).op = .load 34 (.tmp 20) ∧ (o11 4).dst = some (dst11 4) ∧ (o11 4).guard = none ∧ edgeTo (o11 4) 3 = true := ⟨by kernel_rfl, by kernel_rfl, by kernel_rfl, by kernel_rfl⟩
theorem q5 : (o11 5).op = .call { callee := .value (.func 25), args := #[.tmp 21, .const (.int .i64 100)], argTypes := #[34, 3] } ∧ (o11 5).dst = some (dst11 5) ∧ (o11 5).guard = none ∧ edgeTo (o11 5) 4 = true := ⟨by kernel_rfl, by kernel_rfl, by kernel_rfl, by kernel_rfl⟩
theorem q6 : (o11 6).op = .fieldAddr 53 (.tmp 1) 2 ∧ (o11 6).dst = some (dst11 6) ∧ (o11 6).guard = none := ⟨by kernel_rfl, by kernel_rfl, by kernel_rfl⟩
theorem q7 : (o11 7).op = .load 23 (.tmp 23) ∧ (o11 7).dst = some (dst11 7) ∧ (o11 7).guard = none ∧ edgeTo (o11 7) 6 = true := ⟨by kernel_rfl, by kernel_rfl, by kernel_rfl, by kernel_rfl⟩
theorem q8 : (o11 8).op = .fieldAddr 53 (.tmp 1) 3 ∧ (o11 8).dst = some (dst11 8) ∧ (o11 8).guard = none := ⟨by kernel_rfl, by kernel_rfl, by kernel_rfl⟩
theorem q9 : (o11 9).op = .load 51 (.tmp 25) ∧ (o11 9).dst = some (dst11 9) ∧ (o11 9).guard = none ∧ edgeTo (o11 9) 8 = true := ⟨by kernel_rfl, by kernel_rfl, by kernel_rfl, by kernel_rfl⟩
theorem q10 : (o11 10).op = .alloc 51 ∧ (o11 10).dst = some 6 ∧ (o11 10).guard = none := ⟨by kernel_rfl, by kernel_rfl, by kernel_rfl⟩
theorem q11 : (o11 11).op = .assign (.tmp 19) ∧ (o11 11).dst = some (dst11 11) ∧ (o11 11).guard = none ∧ edgeTo (o11 11) 2 = true := ⟨by kernel_rfl, by kernel_rfl, by kernel_rfl, by kernel_rfl⟩
theorem q12 : (o11 12).op = .assign (.tmp 22) ∧ (o11 12).dst = some (dst11 12) ∧ (o11 12).guard = none ∧ edgeTo (o11 12) 5 = true := ⟨by kernel_rfl, by kernel_rfl, by kernel_rfl, by kernel_rfl⟩
theorem q13 : (o11 13).op = .assign (.tmp 24) ∧ (o11 13).dst = some (dst11 13) ∧ (o11 13).guard = none ∧ edgeTo (o11 13) 7 = true := ⟨by kernel_rfl, by kernel_rfl, by kernel_rfl, by kernel_rfl⟩
theorem q14 : (o11 14).op = .store 51 (.tmp 6) (.tmp 26) ∧ (o11 14).dst = none ∧ (o11 14).guard = none ∧ edgeTo (o11 14) 10 = true ∧ edgeTo (o11 14) 9 = true := ⟨by kernel_rfl, by kernel_rfl, by kernel_rfl, by kernel_rfl, by kernel_rfl⟩

theorem step11 {p : Nat} {b t : Sl} {B T : List By} {f x y : Int} {a0 : Act} {w0 : World} (h1 : a0.tmps.getD 1 undef = .pointer (some ⟨p, 0, none⟩)) (hp : CellsAt (strm b t f x y).toList w0 p 0) (hB : View By.cs 1 w0 b.v B) (hT : View By.cs 1 w0 t.v T)
    (S : Nat → Bool) (a : Act) (w : World) (i : Nat) (o : Oper) (h : J11 p b t B T f x y a0 w0 S a w) (ho : ops11[i]? = some o) (hi : S i = false)
    (he : ∀ e ∈ o.after, Region.binds .any e = true → S e.on = true) :
    ∃ v w', (res Try.prog ops11 a w o).to w = some (v, w') ∧ J11 p b t B T f x y a0 w0 (fun j => S j || j == i) (a.put o.dst v) w' := by
  have hlt : i < 15 := by rw [← size11]; exact (Array.getElem?_eq_some_iff.1 ho).1
  have hoi : o = o11 i := by unfold o11; rw [ho]; rfl
  subst hoi
  have hp := hp.bel h.bel
  have l0 : w.cell? ⟨p, 0, none⟩ = some b.v := hp 0 _ rfl
  have l1 : w.cell? ⟨p, 1, none⟩ = some t.v := hp 1 _ rfl
  have l2 : w.cell? ⟨p, 2, none⟩ = some (.int .u32 f) := hp 2 _ rfl
  have l3 : CellsAt [.int .u8 x, .int .u8 y] w p 3 := fun j v hj => by
    have := hp (3 + j) v (by
      match j, hj with
      | 0, hj => exact hj
      | 1, hj => exact hj)
    rwa [Nat.zero_add] at this
  have k1 : a.tmps.getD 1 undef = .pointer (some ⟨p, 0, none⟩) := (h.keep 1 (by omega)).trans h1
  match i, hlt with
  | 0, _ =>
    obtain ⟨e1, e2, e3⟩ := q0
    refine ⟨.pointer (some ⟨p, 0, none⟩), w, ?_, by rw [e2]; exact h.step (by omega) (by omega) (Bel.refl _) rfl⟩
    unfold res; rw [e1, e3]
    show (QfieldAddr Try.prog 53 (a.eval (.tmp 1)) 0).map _ = _
    rw [eval_tmp, k1, fa53x0]; rfl
  | 1, _ =>
    obtain ⟨e1, e2, e3, e4⟩ := q1
    have s0 : a.tmps.getD 17 undef = _ := h.tells 0 (by omega) (by omega) (edge_S e4 he)
    refine ⟨b.v, w, ?_, by rw [e2]; exact h.step (by omega) (by omega) (Bel.refl _) rfl⟩
    unfold res; rw [e1, e3]
    show (Qload Try.prog 34 (a.eval (.tmp 17)) w).map _ = _
    rw [eval_tmp, s0, Qload_cell one34 l0]; rfl
  | 2, _ =>
    obtain ⟨e1, e2, e3, e4⟩ := q2
    have s0 : a.tmps.getD 18 undef = _ := h.tells 1 (by omega) (by omega) (edge_S e4 he)
    obtain ⟨⟨v, w'⟩, hc, hw, s, hs, hv, ho⟩ := k25 (n := 600) (hB.bel h.bel)
    simp only at hw hs hv
    subst hw hs
    refine ⟨s.v, w', ?_, by rw [e2]; exact h.step (by omega) (by omega) (Bel.refl _) ⟨s, rfl, hv, (view_low hB).imp (fun e => by rw [e]; rfl) fun h k hk => h k (ho k hk)⟩⟩
    unfold res; rw [e1, e3]
    show Xcall Try.prog (a.eval (.func 25)) #[a.eval (.tmp 18), a.eval (.const (.int .i64 600))] w' = _
    rw [eval_tmp, s0]
    exact hc
  | 3, _ =>
    obtain ⟨e1, e2, e3⟩ := q3
    refine ⟨.pointer (some ⟨p, 1, none⟩), w, ?_, by rw [e2]; exact h.step (by omega) (by omega) (Bel.refl _) rfl⟩
    unfold res; rw [e1, e3]
    show (QfieldAddr Try.prog 53 (a.eval (.tmp 1)) 1).map _ = _
    rw [eval_tmp, k1, fa53x1]; rfl
  | 4, _ =>
    obtain ⟨e1, e2, e3, e4⟩ := q4
    have s0 : a.tmps.getD 20 undef = _ := h.tells 3 (by omega) (by omega) (edge_S e4 he)
    refine ⟨t.v, w, ?_, by rw [e2]; exact h.step (by omega) (by omega) (Bel.refl _) rfl⟩
    unfold res; rw [e1, e3]
    show (Qload Try.prog 34 (a.eval (.tmp 20)) w).map _ = _
    rw [eval_tmp, s0, Qload_cell one34 l1]; rfl
  | 5, _ =>
    obtain ⟨e1, e2, e3, e4⟩ := q5
    have s0 : a.tmps.getD 21 undef = _ := h.tells 4 (by omega) (by omega) (edge_S e4 he)
    obtain ⟨⟨v, w'⟩, hc, hw, s, hs, hv, ho⟩ := k25 (n := 100) (hT.bel h.bel)
    simp only at hw hs hv
    subst hw hs
    refine ⟨s.v, w', ?_, by rw [e2]; exact h.step (by omega) (by omega) (Bel.refl _) ⟨s, rfl, hv, (view_low hT).imp (fun e => by rw [e]; rfl) fun h k hk => h k (ho k hk)⟩⟩
    unfold res; rw [e1, e3]
    show Xcall Try.prog (a.eval (.func 25)) #[a.eval (.tmp 21), a.eval (.const (.int .i64 100))] w' = _
    rw [eval_tmp, s0]
    exact hc
  | 6, _ =>
    obtain ⟨e1, e2, e3⟩ := q6
    refine ⟨.pointer (some ⟨p, 2, none⟩), w, ?_, by rw [e2]; exact h.step (by omega) (by omega) (Bel.refl _) rfl⟩
    unfold res; rw [e1, e3]
    show (QfieldAddr Try.prog 53 (a.eval (.tmp 1)) 2).map _ = _
    rw [eval_tmp, k1, fa53x2]; rfl
  | 7, _ =>
    obtain ⟨e1, e2, e3, e4⟩ := q7
    have s0 : a.tmps.getD 23 undef = _ := h.tells 6 (by omega) (by omega) (edge_S e4 he)
    refine ⟨.int .u32 f, w, ?_, by rw [e2]; exact h.step (by omega) (by omega) (Bel.refl _) rfl⟩
    unfold res; rw [e1, e3]
    show (Qload Try.prog 23 (a.eval (.tmp 23)) w).map _ = _
    rw [eval_tmp, s0, Qload_cell one23 l2]; rfl
  | 8, _ =>
    obtain ⟨e1, e2, e3⟩ := q8
    refine ⟨.pointer (some ⟨p, 3, none⟩), w, ?_, by rw [e2]; exact h.step (by omega) (by omega) (Bel.refl _) rfl⟩
    unfold res; rw [e1, e3]
    show (QfieldAddr Try.prog 53 (a.eval (.tmp 1)) 3).map _ = _
    rw [eval_tmp, k1, fa53x3]; rfl
  | 9, _ =>
    obtain ⟨e1, e2, e3, e4⟩ := q9
    have s0 : a.tmps.getD 25 undef = _ := h.tells 8 (by omega) (by omega) (edge_S e4 he)
    refine ⟨.agg #[.int .u8 x, .int .u8 y], w, ?_, by rw [e2]; exact h.step (by omega) (by omega) (Bel.refl _) rfl⟩
    unfold res; rw [e1, e3]
    show (Qload Try.prog 51 (a.eval (.tmp 25)) w).map _ = _
    rw [eval_tmp, s0, load51 l3]; rfl
  | 10, _ =>
    obtain ⟨e1, e2, e3⟩ := q10
    have hb : Bel w (w.alloc (.cells #[.int .u8 0, .int .u8 0] 51)) := (Bel.refl w).alloc _
    have n14 : S 14 = false := by
      cases h14 : S 14 with
      | false => rfl
      | true => rw [h.last h14] at hi; cases hi
    refine ⟨.pointer (some ⟨w.heap.size, 0, none⟩), w.alloc (.cells #[.int .u8 0, .int .u8 0] 51), ?_, ?_⟩
    · unfold res; rw [e1, e3]
      show Xalloc Try.prog 51 w = _
      exact alloc51 w
    rw [e2]
    refine ⟨by rw [put_size]; exact h.size, fun j hj => by rw [put_other (by omega)]; exact h.keep j hj, h.bel.trans hb, fun k hk hk10 hs => ?_, fun hs => ?_, fun hs => by simp⟩
    · have : (k == 10) = false := by simpa using hk10
      simp only [this, Bool.or_false] at hs
      rw [put_other fun e => (dst_lt k hk hk10).2.1 e]
      exact tell_bel hb (h.tells k hk hk10 hs)
    · exact ⟨w.heap.size, put_same (by rw [h.size]; omega), h.bel.size, fun _ => (MapKept.heap_alloc w _).1, fun hs => by simp [n14] at hs⟩
  | 11, _ =>
    obtain ⟨e1, e2, e3, e4⟩ := q11
    have s0 : ∃ s : Sl, a.tmps.getD 19 undef = s.v ∧ Low w0.heap.size w s.v (B.take 600) := h.tells 2 (by omega) (by omega) (edge_S e4 he)
    obtain ⟨s, s1, s2⟩ := s0
    refine ⟨s.v, w, ?_, by rw [e2]; exact h.step (by omega) (by omega) (Bel.refl _) ⟨s, rfl, s2⟩⟩
    unfold res; rw [e1, e3]
    show some (a.eval (.tmp 19), w) = _
    rw [eval_tmp, s1]
  | 12, _ =>
    obtain ⟨e1, e2, e3, e4⟩ := q12
    have s0 : ∃ s : Sl, a.tmps.getD 22 undef = s.v ∧ Low w0.heap.size w s.v (T.take 100) := h.tells 5 (by omega) (by omega) (edge_S e4 he)
    obtain ⟨s, s1, s2⟩ := s0
    refine ⟨s.v, w, ?_, by rw [e2]; exact h.step (by omega) (by omega) (Bel.refl _) ⟨s, rfl, s2⟩⟩
    unfold res; rw [e1, e3]
    show some (a.eval (.tmp 22), w) = _
    rw [eval_tmp, s1]
  | 13, _ =>
    obtain ⟨e1, e2, e3, e4⟩ := q13
    have s0 : a.tmps.getD 24 undef = _ := h.tells 7 (by omega) (by omega) (edge_S e4 he)
    refine ⟨.int .u32 f, w, ?_, by rw [e2]; exact h.step (by omega) (by omega) (Bel.refl _) rfl⟩
    unfold res; rw [e1, e3]
    show some (a.eval (.tmp 24), w) = _
    rw [eval_tmp, s0]
  | 14, _ =>
    obtain ⟨e1, e2, e3, e4, e5⟩ := q14
    have s10 := edge_S e4 he
    obtain ⟨q, u1, u2, u3, _⟩ := h.v6 s10
    have s0 : a.tmps.getD 26 undef = _ := h.tells 9 (by omega) (by omega) (edge_S e5 he)
    have hq := u3 hi
    have hc := setRow_chg (w := w) q #[.int .u8 x, .int .u8 y]
    obtain ⟨ti, hti, hts⟩ := inf51
    refine ⟨undef, w.setRow q #[.int .u8 x, .int .u8 y], ?_, ?_⟩
    · unfold res; rw [e1, e3]
      show Xstore Try.prog 51 (a.eval (.tmp 6)) (a.eval (.tmp 26)) w = _
      rw [eval_tmp, eval_tmp, u1, s0]
      exact Xstore_var (v := .agg #[.int .u8 x, .int .u8 y]) hti (by rw [hts]; rfl) hq (by rw [hts]; rfl) (by intro u hu; simp [Value.cells] at hu; rcases hu with rfl | rfl <;> rfl)
    rw [e2]
    refine ⟨h.size, h.keep, (h.bel.thenChg hc).bel fun k hk e => by omega, fun k hk hk10 hs => ?_, fun _ => ⟨q, u1, u2, fun hs => by simp at hs, fun _ => setRow_heap w q _ _ 51 _ hq⟩, fun _ => by simp [s10]⟩
    have : (k == 14) = false := by simp; omega
    simp only [this, Bool.or_false] at hs
    have hk2 := h.tells k hk hk10 hs
    unfold tell11 at hk2 ⊢
    split at hk2 <;> first | exact hk2 | (obtain ⟨s, e, hv⟩ := hk2; exact ⟨s, e, hv.chg hc fun k hk => by rw [hk]; exact u2⟩)

theorem back11 : ∀ j i, Edge1 ops11 j i → i < j := back_of (by kernel_rfl)

theorem region11 (n : Nat) {p : Nat} {b t : Sl} {B T : List By} {f x y : Int} {a : Act} {w : World} (hs : a.tmps.size = 203) (h1 : a.tmps.getD 1 undef = .pointer (some ⟨p, 0, none⟩)) (hp : CellsAt (strm b t f x y).toList w p 0) (hB : View By.cs 1 w b.v B) (hT : View By.cs 1 w t.v T) :
    ∃ a' w', evIdx Try.prog ops11 (Region.linearise .any ops11 n) a w = some (a', w') ∧ (∀ j, j < 3 → a'.tmps.getD j undef = a.tmps.getD j undef) ∧ Bel w w' ∧
      ∃ (s u : Sl) (q : Nat), a'.tmps.getD 3 undef = s.v ∧ a'.tmps.getD 4 undef = u.v ∧ a'.tmps.getD 5 undef = .int .u32 f ∧ a'.tmps.getD 6 undef = .pointer (some ⟨q, 0, none⟩) ∧
        View By.cs 1 w' s.v (B.take 600) ∧ View By.cs 1 w' u.v (T.take 100) ∧ w'.heap[q]? = some (.cells #[.int .u8 x, .int .u8 y] 51) := by
  obtain ⟨S, a', w', g1, g2, g3⟩ := lin_inv (P := Try.prog) (J11 p b t B T f x y a w) back11 (a := a) (w := w)
    ⟨hs, fun _ _ => rfl, Bel.refl _, fun _ _ _ h => by simp at h, fun h => by simp at h, fun h => by simp at h⟩ (step11 h1 hp hB hT) n
  have hall : ∀ i, i < 15 → S i = true := fun i hi => g3 i (by rw [size11]; exact hi)
  obtain ⟨q, q1, q2, _, q4⟩ := g2.v6 (hall 10 (by omega))
  obtain ⟨s, s1, s2⟩ := g2.tells 11 (by omega) (by omega) (hall 11 (by omega))
  obtain ⟨u, u1, u2⟩ := g2.tells 12 (by omega) (by omega) (hall 12 (by omega))
  exact ⟨a', w', g1, g2.keep, g2.bel, s, u, q, s1, u1, g2.tells 13 (by omega) (by omega) (hall 13 (by omega)), q1, s2.1, u2.1, q4 (hall 14 (by omega))⟩

end Go.Proofs.Ytfakpdegiobpaaa
