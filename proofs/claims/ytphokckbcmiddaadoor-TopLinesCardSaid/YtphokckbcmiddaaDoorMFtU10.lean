/- The part that is written, in whichever order it is put together. -/
import Derived.Test.YtphokckbcmiddaaDoorMFtU7
namespace Go.Proofs.YtphokckbcmiddaaDoor.Sq
open Go Go.Ev Go.RowKit
open Go.Proofs

noncomputable def ops20 : Array Oper := opsOf (nav [1, 1, 1, 1, 0] (bodyOf Tryd.f17))
noncomputable def o20 (i : Nat) : Oper := (ops20[i]?).getD default
set_option maxRecDepth 100000 in
theorem size20 : ops20.size = 10 := by kernel_rfl
def edgeTo (o : Oper) (i : Nat) : Bool := o.after.any fun e => Region.binds .any e && e.on == i
set_option maxRecDepth 100000 in
theorem edge_S {o : Oper} {i : Nat} {S : Nat → Bool} (h : edgeTo o i = true) (hS : ∀ e ∈ o.after, Region.binds .any e = true → S e.on = true) : S i = true := by
  unfold edgeTo at h
  rw [Array.any_eq_true] at h
  obtain ⟨k, hk, hb⟩ := h
  rw [Bool.and_eq_true] at hb
  have := hS o.after[k] (Array.getElem_mem hk) hb.1
  rw [← eq_of_beq hb.2]; exact this

set_option maxRecDepth 100000 in
theorem r0 : (o20 0).op = .load 24 (.tmp 5) ∧ (o20 0).dst = some 25 ∧ (o20 0).guard = none := ⟨by kernel_rfl, by kernel_rfl, by kernel_rfl⟩
set_option maxRecDepth 100000 in
theorem r1 : (o20 1).op = .load 24 (.tmp 5) ∧ (o20 1).dst = some 26 ∧ (o20 1).guard = none := ⟨by kernel_rfl, by kernel_rfl, by kernel_rfl⟩
set_option maxRecDepth 100000 in
theorem r2 : (o20 2).op = .move (.tmp 2) ∧ (o20 2).dst = some 27 ∧ (o20 2).guard = none := ⟨by kernel_rfl, by kernel_rfl, by kernel_rfl⟩
set_option maxRecDepth 100000 in
theorem r3 : (o20 3).op = .convert 3 24 (.tmp 27) ∧ (o20 3).dst = some 28 ∧ (o20 3).guard = none ∧ edgeTo (o20 3) 2 = true := ⟨by kernel_rfl, by kernel_rfl, by kernel_rfl, by kernel_rfl⟩
set_option maxRecDepth 100000 in
theorem r4 : (o20 4).op = .binOp .add 24 (.tmp 26) (.tmp 28) 24 ∧ (o20 4).dst = some 29 ∧ (o20 4).guard = none ∧ edgeTo (o20 4) 1 = true ∧ edgeTo (o20 4) 3 = true := ⟨by kernel_rfl, by kernel_rfl, by kernel_rfl, by kernel_rfl, by kernel_rfl⟩
set_option maxRecDepth 100000 in
theorem r5 : (o20 5).op = .move (.tmp 3) ∧ (o20 5).dst = some 30 ∧ (o20 5).guard = none := ⟨by kernel_rfl, by kernel_rfl, by kernel_rfl⟩
set_option maxRecDepth 100000 in
theorem r6 : (o20 6).op = .call { callee := .value (.func 35), args := #[.tmp 30], argTypes := #[22] } ∧ (o20 6).dst = some 31 ∧ (o20 6).guard = none ∧ edgeTo (o20 6) 5 = true := ⟨by kernel_rfl, by kernel_rfl, by kernel_rfl, by kernel_rfl⟩
set_option maxRecDepth 100000 in
theorem r7 : (o20 7).op = .build 85 #[(0, .tmp 25), (1, .tmp 29), (4, .tmp 31)] ∧ (o20 7).dst = some 32 ∧ (o20 7).guard = none ∧ edgeTo (o20 7) 0 = true ∧ edgeTo (o20 7) 4 = true ∧ edgeTo (o20 7) 6 = true := ⟨by kernel_rfl, by kernel_rfl, by kernel_rfl, by kernel_rfl, by kernel_rfl, by kernel_rfl⟩
set_option maxRecDepth 100000 in
theorem r8 : (o20 8).op = .alloc 85 ∧ (o20 8).dst = some 10 ∧ (o20 8).guard = none := ⟨by kernel_rfl, by kernel_rfl, by kernel_rfl⟩
set_option maxRecDepth 100000 in
theorem r9 : (o20 9).op = .store 85 (.tmp 10) (.tmp 32) ∧ (o20 9).dst = none ∧ (o20 9).guard = none ∧ ∀ i, i < 9 → edgeTo (o20 9) i = true := ⟨by kernel_rfl, by kernel_rfl, by kernel_rfl, fun i hi => (show ∀ i : Fin 9, edgeTo (o20 9) i.val = true by decide +kernel) ⟨i, hi⟩⟩
set_option maxRecDepth 100000 in
theorem build63 (s e : Int) (t : Sl) (w : World) : Qbuild Tryd.prog 85 #[(0, .int .u32 s), (1, .int .u32 e), (4, t.v)] w = some (⟨s, e, 0, 0, t⟩ : Pt).v := by kernel_rfl
set_option maxRecDepth 100000 in
theorem eval_tmp (a : Act) (t : Nat) : a.eval (.tmp t) = a.tmps.getD t undef := rfl
set_option maxRecDepth 100000 in
theorem getD_set {xs : Array Value} {d t : Nat} {v : Value} : (xs.setIfInBounds d v).getD t undef = if t = d then (if d < xs.size then v else undef) else xs.getD t undef := by
  simp only [Array.getD_eq_getD_getElem?, Array.getElem?_setIfInBounds]
  by_cases h : d = t
  · subst h
    by_cases hd : d < xs.size <;> simp [hd]
  · rw [if_neg h, if_neg (fun e => h e.symm)]
set_option maxRecDepth 100000 in
theorem put_other {a : Act} {d t : Nat} {v : Value} (h : t ≠ d) : (a.put (some d) v).tmps.getD t undef = a.tmps.getD t undef := by
  show (a.tmps.setIfInBounds d v).getD t undef = _
  rw [getD_set, if_neg h]
set_option maxRecDepth 100000 in
theorem put_same {a : Act} {d : Nat} {v : Value} (h : d < a.tmps.size) : (a.put (some d) v).tmps.getD d undef = v := by
  show (a.tmps.setIfInBounds d v).getD d undef = _
  rw [getD_set, if_pos rfl, if_pos h]
set_option maxRecDepth 100000 in
theorem put_size {a : Act} {d : Option Nat} {v : Value} : (a.put d v).tmps.size = a.tmps.size := by cases d <;> simp [Act.put]

/-- A text that was laid since. -/
def Txt (w0 w : World) (t : Sl) (bs : List By) : Prop := OwnB w t.v bs ∧ ∀ k, t.v.ownBlock = some k → w0.heap.size ≤ k
set_option maxRecDepth 100000 in
theorem Txt.bel {w0 w w' : World} {t : Sl} {bs : List By} (h : Txt w0 w t bs) (hb : Bel w w') : Txt w0 w' t bs := ⟨h.1.chg (.of_bel hb fun _ => False) fun _ _ f => f, h.2⟩

/-- Ahead of and behind each operation. -/
structure J20 (a0 : Act) (w0 : World) (start was : Int) (bs : List By) (S : Nat → Bool) (a : Act) (w : World) : Prop where
  size : a.tmps.size = 70
  keep : ∀ j, j < 10 → a.tmps.getD j undef = a0.tmps.getD j undef
  bel : Bel w0 w
  v25 : S 0 = true → a.tmps.getD 25 undef = .int .u32 start
  v26 : S 1 = true → a.tmps.getD 26 undef = .int .u32 start
  v27 : S 2 = true → a.tmps.getD 27 undef = .int .i64 was
  v28 : S 3 = true → a.tmps.getD 28 undef = .int .u32 (was % 4294967296)
  v29 : S 4 = true → a.tmps.getD 29 undef = .int .u32 ((start + was) % 4294967296)
  v30 : S 5 = true → a.tmps.getD 30 undef = a0.tmps.getD 3 undef
  v31 : S 6 = true → ∃ t : Sl, a.tmps.getD 31 undef = t.v ∧ Txt w0 w t bs
  v32 : S 7 = true → ∃ t : Sl, a.tmps.getD 32 undef = (⟨start, (start + was) % 4294967296, 0, 0, t⟩ : Pt).v ∧ Txt w0 w t bs
  v10 : S 8 = true → ∃ q, a.tmps.getD 10 undef = .pointer (some ⟨q, 0, none⟩) ∧ w0.heap.size ≤ q ∧ (S 9 = false → w.heap[q]? = some (.cells Pt.zero.cs.toArray 85)) ∧
    (S 9 = true → ∃ t : Sl, w.heap[q]? = some (.cells (⟨start, (start + was) % 4294967296, 0, 0, t⟩ : Pt).cs.toArray 85) ∧ Txt w0 w t bs ∧ t.v.ownBlock ≠ some q)
  last : S 9 = true → ∀ i, i < 9 → S i = true

set_option maxRecDepth 100000 in
theorem alloc63_ (w : World) : evX Tryd.prog (fun _ => undef) (.alloc 85) 0 w = Xalloc Tryd.prog 85 w := rfl

set_option maxRecDepth 100000 in
theorem step20 (a0 : Act) (w0 : World) (start was : Int) (bs : List By) {p : Nat} (h5 : a0.tmps.getD 5 undef = .pointer (some ⟨p, 0, none⟩)) (hp : w0.cell? ⟨p, 0, none⟩ = some (.int .u32 start)) (h2 : a0.tmps.getD 2 undef = .int .i64 was)
    (ht : View By.cs 1 w0 (a0.tmps.getD 3 undef) bs) (hl : bs.length ≤ 1000)
    (S : Nat → Bool) (a : Act) (w : World) (i : Nat) (o : Oper) (h : J20 a0 w0 start was bs S a w) (ho : ops20[i]? = some o) (hi : S i = false)
    (he : ∀ e ∈ o.after, Region.binds .any e = true → S e.on = true) :
    ∃ v w', (res Tryd.prog ops20 a w o).to w = some (v, w') ∧ J20 a0 w0 start was bs (fun j => S j || j == i) (a.put o.dst v) w' := by

  have hlt : i < 10 := by rw [← size20]; exact (Array.getElem?_eq_some_iff.1 ho).1
  have hoi : o = o20 i := by unfold o20; rw [ho]; rfl
  subst hoi
  have hor : ∀ j, (S j || j == i) = true → j ≠ i → S j = true := fun j hj hne => by
    have : (j == i) = false := by simpa using hne
    rwa [this, Bool.or_false] at hj
  have n9 : i < 9 → S 9 = false := fun hi9 => by
    cases h9 : S 9 with
    | false => rfl
    | true => rw [h.last h9 i hi9] at hi; cases hi
  have hl9 : ∀ {w' : World}, i < 9 → (S 9 || (9 == i)) = true → ∀ j, j < 9 → (S j || j == i) = true := fun {_} hi9 hs => by
    rw [n9 hi9] at hs
    simp at hs
    omega
  have v10' : ∀ {a' : Act} {w' : World}, i < 9 → i ≠ 8 → Bel w w' → a'.tmps.getD 10 undef = a.tmps.getD 10 undef → (S 8 || (8 == i)) = true → ∃ q, a'.tmps.getD 10 undef = .pointer (some ⟨q, 0, none⟩) ∧ w0.heap.size ≤ q ∧ ((S 9 || (9 == i)) = false → w'.heap[q]? = some (.cells Pt.zero.cs.toArray 85)) ∧
      ((S 9 || (9 == i)) = true → ∃ t : Sl, w'.heap[q]? = some (.cells (⟨start, (start + was) % 4294967296, 0, 0, t⟩ : Pt).cs.toArray 85) ∧ Txt w0 w' t bs ∧ t.v.ownBlock ≠ some q) := fun hi9 hi8 hb ea hs => by
    obtain ⟨q, q1, q2, q3, _⟩ := h.v10 (hor _ hs (by omega))
    refine ⟨q, ea.trans q1, q2, fun _ => hb.at_ (q3 (n9 hi9)), fun hs9 => ?_⟩
    rw [n9 hi9] at hs9
    simp at hs9
    omega
  match i, hlt with
  | 0, _ =>
    obtain ⟨e1, e2, e3⟩ := r0
    refine ⟨.int .u32 start, w, ?_, ?_⟩
    · unfold res; rw [e1, e3]
      show (Qload Tryd.prog 24 (a.eval (.tmp 5)) w).map _ = _
      rw [eval_tmp, h.keep 5 (by omega), h5, Qload_cell one24 (h.bel.cell_some hp)]; rfl
    rw [e2]
    have ot : ∀ {u : Nat}, u ≠ 25 → (a.put (some 25) (.int .u32 start)).tmps.getD u undef = a.tmps.getD u undef := fun ne => put_other ne
    exact ⟨by rw [put_size]; exact h.size, fun j hj => by rw [ot (by omega)]; exact h.keep j hj, h.bel, fun _ => put_same (by rw [h.size]; omega), fun hs => by rw [ot (by omega)]; exact h.v26 (hor _ hs (by omega)), fun hs => by rw [ot (by omega)]; exact h.v27 (hor _ hs (by omega)), fun hs => by rw [ot (by omega)]; exact h.v28 (hor _ hs (by omega)), fun hs => by rw [ot (by omega)]; exact h.v29 (hor _ hs (by omega)), fun hs => by rw [ot (by omega)]; exact h.v30 (hor _ hs (by omega)), fun hs => by rw [ot (by omega)]; exact h.v31 (hor _ hs (by omega)), fun hs => by rw [ot (by omega)]; exact h.v32 (hor _ hs (by omega)), fun hs => v10' (by omega) (by omega) (Bel.refl _) (ot (by omega)) hs, hl9 (w' := w) (by omega)⟩
  | 1, _ =>
    obtain ⟨e1, e2, e3⟩ := r1
    refine ⟨.int .u32 start, w, ?_, ?_⟩
    · unfold res; rw [e1, e3]
      show (Qload Tryd.prog 24 (a.eval (.tmp 5)) w).map _ = _
      rw [eval_tmp, h.keep 5 (by omega), h5, Qload_cell one24 (h.bel.cell_some hp)]; rfl
    rw [e2]
    have ot : ∀ {u : Nat}, u ≠ 26 → (a.put (some 26) (.int .u32 start)).tmps.getD u undef = a.tmps.getD u undef := fun ne => put_other ne
    exact ⟨by rw [put_size]; exact h.size, fun j hj => by rw [ot (by omega)]; exact h.keep j hj, h.bel, fun hs => by rw [ot (by omega)]; exact h.v25 (hor _ hs (by omega)), fun _ => put_same (by rw [h.size]; omega), fun hs => by rw [ot (by omega)]; exact h.v27 (hor _ hs (by omega)), fun hs => by rw [ot (by omega)]; exact h.v28 (hor _ hs (by omega)), fun hs => by rw [ot (by omega)]; exact h.v29 (hor _ hs (by omega)), fun hs => by rw [ot (by omega)]; exact h.v30 (hor _ hs (by omega)), fun hs => by rw [ot (by omega)]; exact h.v31 (hor _ hs (by omega)), fun hs => by rw [ot (by omega)]; exact h.v32 (hor _ hs (by omega)), fun hs => v10' (by omega) (by omega) (Bel.refl _) (ot (by omega)) hs, hl9 (w' := w) (by omega)⟩
  | 2, _ =>
    obtain ⟨e1, e2, e3⟩ := r2
    refine ⟨.int .i64 was, w, ?_, ?_⟩
    · unfold res; rw [e1, e3]
      show some (a.eval (.tmp 2), w) = _
      rw [eval_tmp, h.keep 2 (by omega), h2]
    rw [e2]
    have ot : ∀ {u : Nat}, u ≠ 27 → (a.put (some 27) (.int .i64 was)).tmps.getD u undef = a.tmps.getD u undef := fun ne => put_other ne
    exact ⟨by rw [put_size]; exact h.size, fun j hj => by rw [ot (by omega)]; exact h.keep j hj, h.bel, fun hs => by rw [ot (by omega)]; exact h.v25 (hor _ hs (by omega)), fun hs => by rw [ot (by omega)]; exact h.v26 (hor _ hs (by omega)), fun _ => put_same (by rw [h.size]; omega), fun hs => by rw [ot (by omega)]; exact h.v28 (hor _ hs (by omega)), fun hs => by rw [ot (by omega)]; exact h.v29 (hor _ hs (by omega)), fun hs => by rw [ot (by omega)]; exact h.v30 (hor _ hs (by omega)), fun hs => by rw [ot (by omega)]; exact h.v31 (hor _ hs (by omega)), fun hs => by rw [ot (by omega)]; exact h.v32 (hor _ hs (by omega)), fun hs => v10' (by omega) (by omega) (Bel.refl _) (ot (by omega)) hs, hl9 (w' := w) (by omega)⟩
  | 3, _ =>
    obtain ⟨e1, e2, e3, e4⟩ := r3
    have s2 := edge_S e4 he
    refine ⟨.int .u32 (was % 4294967296), w, ?_, ?_⟩
    · unfold res; rw [e1, e3]
      show (Qconv Tryd.prog 3 24 (a.eval (.tmp 27))).map _ = _
      rw [eval_tmp, h.v27 s2, Qconv_int (k := .u32) (by kernel_rfl), u32w]; rfl
    rw [e2]
    have ot : ∀ {u : Nat}, u ≠ 28 → (a.put (some 28) (.int .u32 (was % 4294967296))).tmps.getD u undef = a.tmps.getD u undef := fun ne => put_other ne
    exact ⟨by rw [put_size]; exact h.size, fun j hj => by rw [ot (by omega)]; exact h.keep j hj, h.bel, fun hs => by rw [ot (by omega)]; exact h.v25 (hor _ hs (by omega)), fun hs => by rw [ot (by omega)]; exact h.v26 (hor _ hs (by omega)), fun hs => by rw [ot (by omega)]; exact h.v27 (hor _ hs (by omega)), fun _ => put_same (by rw [h.size]; omega), fun hs => by rw [ot (by omega)]; exact h.v29 (hor _ hs (by omega)), fun hs => by rw [ot (by omega)]; exact h.v30 (hor _ hs (by omega)), fun hs => by rw [ot (by omega)]; exact h.v31 (hor _ hs (by omega)), fun hs => by rw [ot (by omega)]; exact h.v32 (hor _ hs (by omega)), fun hs => v10' (by omega) (by omega) (Bel.refl _) (ot (by omega)) hs, hl9 (w' := w) (by omega)⟩
  | 4, _ =>
    obtain ⟨e1, e2, e3, e4, e5⟩ := r4
    have s1 := edge_S e4 he
    have s3 := edge_S e5 he
    refine ⟨.int .u32 ((start + was) % 4294967296), w, ?_, ?_⟩
    · unfold res; rw [e1, e3]
      show (Qbin Tryd.prog .add 24 (a.eval (.tmp 26)) (a.eval (.tmp 28))).map _ = _
      rw [eval_tmp, eval_tmp, h.v26 s1, h.v28 s3, Qb_add, u32w, show (start + was % 4294967296) % 4294967296 = (start + was) % 4294967296 by omega]; rfl
    rw [e2]
    have ot : ∀ {u : Nat}, u ≠ 29 → (a.put (some 29) (.int .u32 ((start + was) % 4294967296))).tmps.getD u undef = a.tmps.getD u undef := fun ne => put_other ne
    exact ⟨by rw [put_size]; exact h.size, fun j hj => by rw [ot (by omega)]; exact h.keep j hj, h.bel, fun hs => by rw [ot (by omega)]; exact h.v25 (hor _ hs (by omega)), fun hs => by rw [ot (by omega)]; exact h.v26 (hor _ hs (by omega)), fun hs => by rw [ot (by omega)]; exact h.v27 (hor _ hs (by omega)), fun hs => by rw [ot (by omega)]; exact h.v28 (hor _ hs (by omega)), fun _ => put_same (by rw [h.size]; omega), fun hs => by rw [ot (by omega)]; exact h.v30 (hor _ hs (by omega)), fun hs => by rw [ot (by omega)]; exact h.v31 (hor _ hs (by omega)), fun hs => by rw [ot (by omega)]; exact h.v32 (hor _ hs (by omega)), fun hs => v10' (by omega) (by omega) (Bel.refl _) (ot (by omega)) hs, hl9 (w' := w) (by omega)⟩
  | 5, _ =>
    obtain ⟨e1, e2, e3⟩ := r5
    refine ⟨a0.tmps.getD 3 undef, w, ?_, ?_⟩
    · unfold res; rw [e1, e3]
      show some (a.eval (.tmp 3), w) = _
      rw [eval_tmp, h.keep 3 (by omega)]
    rw [e2]
    have ot : ∀ {u : Nat}, u ≠ 30 → (a.put (some 30) (a0.tmps.getD 3 undef)).tmps.getD u undef = a.tmps.getD u undef := fun ne => put_other ne
    exact ⟨by rw [put_size]; exact h.size, fun j hj => by rw [ot (by omega)]; exact h.keep j hj, h.bel, fun hs => by rw [ot (by omega)]; exact h.v25 (hor _ hs (by omega)), fun hs => by rw [ot (by omega)]; exact h.v26 (hor _ hs (by omega)), fun hs => by rw [ot (by omega)]; exact h.v27 (hor _ hs (by omega)), fun hs => by rw [ot (by omega)]; exact h.v28 (hor _ hs (by omega)), fun hs => by rw [ot (by omega)]; exact h.v29 (hor _ hs (by omega)), fun _ => put_same (by rw [h.size]; omega), fun hs => by rw [ot (by omega)]; exact h.v31 (hor _ hs (by omega)), fun hs => by rw [ot (by omega)]; exact h.v32 (hor _ hs (by omega)), fun hs => v10' (by omega) (by omega) (Bel.refl _) (ot (by omega)) hs, hl9 (w' := w) (by omega)⟩
  | 6, _ =>
    obtain ⟨e1, e2, e3, e4⟩ := r6
    have s5 := edge_S e4 he
    obtain ⟨⟨v, w2⟩, hc, hb, ho, hf⟩ := By.k35 (ht.bel h.bel) hl
    simp only at hb ho hf
    obtain ⟨x, n, c, rfl⟩ := By.owns_slice ho
    refine ⟨.slice x n c, w2, ?_, ?_⟩
    · unfold res; rw [e1, e3]
      show Xcall Tryd.prog (a.eval (.func 35)) #[a.eval (.tmp 30)] w = _
      rw [eval_tmp, h.v30 s5]
      exact hc
    rw [e2]
    have ot : ∀ {u : Nat}, u ≠ 31 → (a.put (some 31) (.slice x n c)).tmps.getD u undef = a.tmps.getD u undef := fun ne => put_other ne
    have tx : Txt w0 w2 ⟨x, n, c⟩ bs := ⟨ho, fun k hk => Nat.le_trans h.bel.size (hf k hk)⟩
    exact ⟨by rw [put_size]; exact h.size, fun j hj => by rw [ot (by omega)]; exact h.keep j hj, h.bel.trans hb, fun hs => by rw [ot (by omega)]; exact h.v25 (hor _ hs (by omega)), fun hs => by rw [ot (by omega)]; exact h.v26 (hor _ hs (by omega)), fun hs => by rw [ot (by omega)]; exact h.v27 (hor _ hs (by omega)), fun hs => by rw [ot (by omega)]; exact h.v28 (hor _ hs (by omega)), fun hs => by rw [ot (by omega)]; exact h.v29 (hor _ hs (by omega)), fun hs => by rw [ot (by omega)]; exact h.v30 (hor _ hs (by omega)), fun _ => ⟨⟨x, n, c⟩, put_same (by rw [h.size]; omega), tx⟩, fun hs => by rw [ot (by omega)]; obtain ⟨t, q1, q2⟩ := h.v32 (hor _ hs (by omega)); exact ⟨t, q1, q2.bel hb⟩, fun hs => v10' (by omega) (by omega) (hb) (ot (by omega)) hs, hl9 (w' := w2) (by omega)⟩
  | 7, _ =>
    obtain ⟨e1, e2, e3, e4, e5, e6⟩ := r7
    have s0 := edge_S e4 he
    have s4 := edge_S e5 he
    have s6 := edge_S e6 he
    obtain ⟨t, t1, t2⟩ := h.v31 s6
    refine ⟨(⟨start, (start + was) % 4294967296, 0, 0, t⟩ : Pt).v, w, ?_, ?_⟩
    · unfold res; rw [e1, e3]
      show (Qbuild Tryd.prog 85 #[(0, a.eval (.tmp 25)), (1, a.eval (.tmp 29)), (4, a.eval (.tmp 31))] w).map _ = _
      rw [eval_tmp, eval_tmp, eval_tmp, h.v25 s0, h.v29 s4, t1, build63]; rfl
    rw [e2]
    have ot : ∀ {u : Nat}, u ≠ 32 → (a.put (some 32) ((⟨start, (start + was) % 4294967296, 0, 0, t⟩ : Pt).v)).tmps.getD u undef = a.tmps.getD u undef := fun ne => put_other ne
    exact ⟨by rw [put_size]; exact h.size, fun j hj => by rw [ot (by omega)]; exact h.keep j hj, h.bel, fun hs => by rw [ot (by omega)]; exact h.v25 (hor _ hs (by omega)), fun hs => by rw [ot (by omega)]; exact h.v26 (hor _ hs (by omega)), fun hs => by rw [ot (by omega)]; exact h.v27 (hor _ hs (by omega)), fun hs => by rw [ot (by omega)]; exact h.v28 (hor _ hs (by omega)), fun hs => by rw [ot (by omega)]; exact h.v29 (hor _ hs (by omega)), fun hs => by rw [ot (by omega)]; exact h.v30 (hor _ hs (by omega)), fun hs => by rw [ot (by omega)]; exact h.v31 (hor _ hs (by omega)), fun _ => ⟨t, put_same (by rw [h.size]; omega), t2⟩, fun hs => v10' (by omega) (by omega) (Bel.refl _) (ot (by omega)) hs, hl9 (w' := w) (by omega)⟩
  | 8, _ =>
    obtain ⟨e1, e2, e3⟩ := r8
    have hb : Bel w (w.alloc (.cells Pt.zero.cs.toArray 85)) := (Bel.refl w).alloc _
    refine ⟨.pointer (some ⟨w.heap.size, 0, none⟩), w.alloc (.cells Pt.zero.cs.toArray 85), ?_, ?_⟩
    · unfold res; rw [e1, e3]
      show Xalloc Tryd.prog 85 w = _
      exact alloc85 w
    rw [e2]
    have ot : ∀ {u : Nat}, u ≠ 10 → (a.put (some 10) (.pointer (some ⟨w.heap.size, 0, none⟩))).tmps.getD u undef = a.tmps.getD u undef := fun ne => put_other ne
    exact ⟨by rw [put_size]; exact h.size, fun j hj => by rw [ot (by omega)]; exact h.keep j hj, h.bel.trans hb, fun hs => by rw [ot (by omega)]; exact h.v25 (hor _ hs (by omega)), fun hs => by rw [ot (by omega)]; exact h.v26 (hor _ hs (by omega)), fun hs => by rw [ot (by omega)]; exact h.v27 (hor _ hs (by omega)), fun hs => by rw [ot (by omega)]; exact h.v28 (hor _ hs (by omega)), fun hs => by rw [ot (by omega)]; exact h.v29 (hor _ hs (by omega)), fun hs => by rw [ot (by omega)]; exact h.v30 (hor _ hs (by omega)), fun hs => by rw [ot (by omega)]; obtain ⟨t, q1, q2⟩ := h.v31 (hor _ hs (by omega)); exact ⟨t, q1, q2.bel hb⟩, fun hs => by rw [ot (by omega)]; obtain ⟨t, q1, q2⟩ := h.v32 (hor _ hs (by omega)); exact ⟨t, q1, q2.bel hb⟩,
      fun _ => ⟨w.heap.size, put_same (by rw [h.size]; omega), h.bel.size, fun _ => (MapKept.heap_alloc w _).1, fun hs9 => by rw [n9 (by omega)] at hs9; simp at hs9⟩, hl9 (w' := w) (by omega)⟩
  | 9, _ =>
    obtain ⟨e1, e2, e3, e4⟩ := r9
    have all : ∀ j, j < 9 → S j = true := fun j hj => edge_S (e4 j hj) he
    obtain ⟨q, q1, q2, q3, _⟩ := h.v10 (all 8 (by omega))
    obtain ⟨t, t1, t2⟩ := h.v32 (all 7 (by omega))
    have hq := q3 hi
    have nq : t.v.ownBlock ≠ some q := fun e => by
      obtain ⟨_, ⟨e', _⟩ | ⟨g, cap, cur, e', _, hg, _⟩⟩ := t2.1
      · rw [e'] at e; cases e
      · rw [e'] at e
        simp only [Value.ownBlock, Option.some.injEq] at e
        subst e
        rw [hq] at hg
        injection hg with hg
        injection hg with _ hg
        cases hg
    have hc := setRow_chg (w := w) q (⟨start, (start + was) % 4294967296, 0, 0, t⟩ : Pt).cs.toArray
    have t3 : Txt w0 (w.setRow q (⟨start, (start + was) % 4294967296, 0, 0, t⟩ : Pt).cs.toArray) t bs := ⟨t2.1.chg hc fun k hk e => nq (by rw [hk, e]), t2.2⟩
    refine ⟨undef, w.setRow q (⟨start, (start + was) % 4294967296, 0, 0, t⟩ : Pt).cs.toArray, ?_, ?_⟩
    · unfold res; rw [e1, e3]
      show Xstore Tryd.prog 85 (a.eval (.tmp 10)) (a.eval (.tmp 32)) w = _
      rw [eval_tmp, eval_tmp, q1, t1]
      exact store85 hq rfl
    rw [e2]
    exact ⟨h.size, h.keep, (h.bel.thenChg hc).bel fun k hk e => by omega, fun _ => h.v25 (all 0 (by omega)), fun _ => h.v26 (all 1 (by omega)), fun _ => h.v27 (all 2 (by omega)), fun _ => h.v28 (all 3 (by omega)), fun _ => h.v29 (all 4 (by omega)), fun _ => h.v30 (all 5 (by omega)),
      fun _ => by
        obtain ⟨t', u1, u2⟩ := h.v31 (all 6 (by omega))
        have nq' : t'.v.ownBlock ≠ some q := fun e => by
          obtain ⟨_, ⟨e', _⟩ | ⟨g, cap, cur, e', _, hg, _⟩⟩ := u2.1
          · rw [e'] at e; cases e
          · rw [e'] at e
            simp only [Value.ownBlock, Option.some.injEq] at e
            subst e
            rw [hq] at hg
            injection hg with hg
            injection hg with _ hg
            cases hg
        exact ⟨t', u1, u2.1.chg hc fun k hk e => nq' (by rw [hk, e]), u2.2⟩,
      fun _ => ⟨t, t1, t3⟩, fun _ => ⟨q, q1, q2, fun hs => by simp at hs, fun _ => ⟨t, setRow_heap w q _ _ 85 _ hq, t3, nq⟩⟩, fun _ j hj => by rw [all j hj]; rfl⟩

set_option maxRecDepth 100000 in
theorem back20 : ∀ j i, Edge1 ops20 j i → i < j := back_of (by kernel_rfl)

set_option maxRecDepth 100000 in
theorem region20 (n : Nat) {a : Act} {w : World} {start was : Int} {bs : List By} {p : Nat} (hs : a.tmps.size = 70) (h5 : a.tmps.getD 5 undef = .pointer (some ⟨p, 0, none⟩)) (hp : w.cell? ⟨p, 0, none⟩ = some (.int .u32 start)) (h2 : a.tmps.getD 2 undef = .int .i64 was)
    (ht : View By.cs 1 w (a.tmps.getD 3 undef) bs) (hl : bs.length ≤ 1000) :
    ∃ a' w', evIdx Tryd.prog ops20 (Region.linearise .any ops20 n) a w = some (a', w') ∧ a'.tmps.size = 70 ∧ (∀ j, j < 10 → a'.tmps.getD j undef = a.tmps.getD j undef) ∧ Bel w w' ∧
      ∃ q t, a'.tmps.getD 10 undef = .pointer (some ⟨q, 0, none⟩) ∧ w.heap.size ≤ q ∧ w'.heap[q]? = some (.cells (⟨start, (start + was) % 4294967296, 0, 0, t⟩ : Pt).cs.toArray 85) ∧ Txt w w' t bs ∧ t.v.ownBlock ≠ some q := by
  obtain ⟨S, a', w', h1, h2, h3⟩ := lin_inv (P := Tryd.prog) (J20 a w start was bs) back20 (a := a) (w := w)
    ⟨hs, fun _ _ => rfl, Bel.refl _, fun h => by simp at h, fun h => by simp at h, fun h => by simp at h, fun h => by simp at h, fun h => by simp at h, fun h => by simp at h, fun h => by simp at h, fun h => by simp at h, fun h => by simp at h, fun h => by simp at h⟩ (step20 a w start was bs h5 hp h2 ht hl) n
  have hall : ∀ i, i < 10 → S i = true := fun i hi => h3 i (by rw [size20]; exact hi)
  obtain ⟨q, q1, q2, _, q4⟩ := h2.v10 (hall 8 (by omega))
  obtain ⟨t, t1, t2, t3⟩ := q4 (hall 9 (by omega))
  exact ⟨a', w', h1, h2.size, h2.keep, h2.bel, q, t, q1, q2, t1, t2, t3⟩

end Go.Proofs.YtphokckbcmiddaaDoor.Sq
