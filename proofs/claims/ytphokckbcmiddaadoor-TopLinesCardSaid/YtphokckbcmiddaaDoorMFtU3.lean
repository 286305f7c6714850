/- Bytes. -/
import Derived.Test.YtphokckbcmiddaaDoorMFtU1
namespace Go.Proofs.YtphokckbcmiddaaDoor.Sq
open Go Go.Ev
open Go.Proofs

structure By where
  b : Int
  deriving DecidableEq
def By.cs (x : By) : List Value := [.int .u8 x.b]
def By.v (x : By) : Value := .int .u8 x.b
def By.ok (x : By) : Prop := (Lit.int .u8 x.b).wf = true
def By.zero : By := ⟨0⟩
set_option maxRecDepth 100000 in
theorem By.len (x : By) : x.cs.length = 1 := rfl
set_option maxRecDepth 100000 in
theorem zero5 (w : World) : (zeroValue 5).run Tryd.prog w = .ok By.zero.v w := by kernel_rfl
set_option maxRecDepth 100000 in
theorem inf5 : ∃ i, Tryd.prog.info? 5 = some i ∧ i.size = 1 := ⟨(Tryd.prog.info? 5).get (by kernel_rfl), by kernel_rfl, by kernel_rfl⟩
set_option maxRecDepth 100000 in
theorem one5 : one Tryd.prog 5 = true := by kernel_rfl
set_option maxRecDepth 100000 in
theorem By.new (x : By) (w : World) : CellsAt x.cs (w.alloc (.cells x.cs.toArray 5)) w.heap.size 0 := CellsAt.of (MapKept.heap_alloc w _).1
set_option maxRecDepth 100000 in
theorem By.one1 (x : By) : ∀ u ∈ x.v.cells.toList, u.oneCell' = true := by
  intro u hu
  have hu : u ∈ x.cs := by simpa [By.v, Value.cells, By.cs] using hu
  exact List.all_eq_true.1 (show x.cs.all (fun u => u.oneCell') = true from rfl) u hu
set_option maxRecDepth 100000 in
theorem By.all {x : By} {w : World} {g o : Nat} (h : CellsAt x.cs w g o) : Qload Tryd.prog 5 (.pointer (some ⟨g, o, none⟩)) w = some x.v := Qload_cell one5 (h 0 _ rfl)
set_option maxRecDepth 100000 in
theorem okc5 {w : World} {n : Nat} {cs : List Value} (h : Okc Tryd.prog w n 5 cs) : ∃ x : By, cs = x.cs ∧ x.ok := by
  cases n with
  | zero => exact h.elim
  | succ n =>
    unfold Okc at h
    rw [Tryd.underlying5] at h
    obtain ⟨m, h1, h2⟩ := h
    exact ⟨⟨m⟩, h1, h2⟩


namespace By
set_option maxRecDepth 100000 in
theorem lens (l : List By) : ∀ y ∈ l, (By.cs y).length = 1 := fun _ _ => rfl
set_option maxRecDepth 100000 in
theorem und22 : Tryd.prog.underlying 22 = some (.slice 5) := by kernel_rfl

set_option maxRecDepth 100000 in
/-- An element of a slice of rules, read. -/
theorem getR {w : World} {s : Value} {l : List By} (h : View By.cs 1 w s l) {n : Int} (h0 : 0 ≤ n) (h1 : n < l.length) :
    ∃ y g o, l[n.toNat]? = some y ∧ s.ownBlock = some g ∧ (∀ w', QindexAddr Tryd.prog 22 s (.int .i64 n) w' = some (.pointer (some ⟨g, o, none⟩))) ∧ CellsAt y.cs w g o := by
  obtain ⟨i, hi, hs⟩ := inf5
  exact h.get und22 hi hs h0 h1

set_option maxRecDepth 100000 in
theorem lit34 (x : By) (w : World) : XbuildSlice Tryd.prog 22 1 #[(0, x.v)] w = some (.slice (some ⟨w.heap.size, 0, none⟩) 1 1, w.alloc (.cells x.cs.toArray 5)) := by kernel_rfl
set_option maxRecDepth 100000 in
theorem litView (x : By) (w : World) : View By.cs 1 (w.alloc (.cells x.cs.toArray 5)) (.slice (some ⟨w.heap.size, 0, none⟩) 1 1) [x] :=
  ⟨_, 1, rfl, Nat.le_refl _, by decide, (fun h => by cases h), fun k y hk => by
    cases k with
    | zero => simp at hk; subst hk; exact ⟨_, 0, rfl, by simpa using x.new w⟩
    | succ k => simp at hk⟩

set_option maxRecDepth 100000 in
theorem app34 {w : World} {v s : Value} {l m : List By} (ho : w.ownsRow 0 5 1 v l.length (l.flatMap By.cs)) (hv : View By.cs 1 w s m) (hs : l.length + m.length ≤ 1000000) :
    ∃ v' w', Xbi Tryd.prog .append #[22, 22] 22 #[v, s] w = some (v', w') ∧ w'.ownsRow 0 5 1 v' (l ++ m).length ((l ++ m).flatMap By.cs) ∧ w.grownBy w' v.ownBlock ∧ (∀ k, v'.ownBlock = some k → v.ownBlock = some k ∨ w.heap.size ≤ k) := by
  obtain ⟨i, hi, hz, h1, h2⟩ : ∃ i, Tryd.prog.info? 5 = some i ∧ i.zero = some By.zero.v ∧ i.size = 1 ∧ i.bytes = 1 :=
    ⟨(Tryd.prog.info? 5).get (by kernel_rfl), by kernel_rfl, by kernel_rfl, by kernel_rfl, by kernel_rfl⟩
  exact Xappend und22 hi hz h1 h2 rfl (by omega) ho hv (By.lens m) (fun y _ u hu => By.one1 y u (by simpa [By.v, By.cs, Value.cells] using hu)) (by omega) (by simp only [maxLen]; omega)

set_option maxRecDepth 100000 in
theorem inf22 : ∃ i, Tryd.prog.info? 22 = some i ∧ i.size = 1 := ⟨(Tryd.prog.info? 22).get (by kernel_rfl), by kernel_rfl, by kernel_rfl⟩

set_option maxRecDepth 100000 in
/-- The variable of an object gets another slice. -/
theorem store22 {tt : TypeId} {w : World} {a : Nat} {sl sl' : Value} (hv : w.heap[a]? = some (.cells #[sl] tt (0, 0))) (h : ∃ x n c, sl' = .slice x n c) :
    Xstore Tryd.prog 22 (.pointer (some ⟨a, 0, none⟩)) sl' w = some (undef, w.setRow a #[sl']) := by
  obtain ⟨i, hi, hs⟩ := inf22
  obtain ⟨x, n, c, rfl⟩ := h
  exact Xstore_var hi (by rw [hs]; rfl) hv (by rw [hs]; rfl) (by simp [Value.cells, Value.oneCell'])
set_option maxRecDepth 100000 in
theorem owns_slice {w : World} {base : Nat} {e : TypeId} {size n : Nat} {v : Value} {xs : List Value} (h : w.ownsRow base e size v n xs) : ∃ x n c, v = .slice x n c := by
  obtain ⟨_, ⟨rfl, _⟩ | ⟨g, cap, cur, rfl, _⟩⟩ := h <;> exact ⟨_, _, _, rfl⟩

set_option maxRecDepth 100000 in
theorem lit0 (w : World) : XbuildSlice Tryd.prog 22 0 #[] w = some (.slice (some ⟨w.heap.size, 0, none⟩) 0 0, w.alloc (.cells #[] 5)) := by kernel_rfl
set_option maxRecDepth 100000 in
theorem own0 (w : World) : (w.alloc (.cells #[] 5)).ownsRow 0 5 1 (.slice (some ⟨w.heap.size, 0, none⟩) 0 0) ([] : List By).length (([] : List By).flatMap By.cs) :=
  ⟨rfl, .inr ⟨w.heap.size, 0, #[], rfl, Nat.zero_le _, (MapKept.heap_alloc w _).1, Nat.le_refl _, Nat.zero_le _, rfl, rfl⟩⟩

/-- A new slice of the same. -/
def Fresh (w : World) (l : List By) (r : Value × World) : Prop :=
  Bel w r.2 ∧ r.2.ownsRow 0 5 1 r.1 l.length (l.flatMap By.cs) ∧ ∀ k, r.1.ownBlock = some k → w.heap.size ≤ k

set_option maxRecDepth 100000 in
/-- append([]T{}, s...) -/
theorem copy34 {w : World} {s : Value} {l : List By} (hv : View By.cs 1 w s l) (hm : l.length ≤ 1000) :
    ∃ v' w', Xbi Tryd.prog .append #[22, 22] 22 #[.slice (some ⟨w.heap.size, 0, none⟩) 0 0, s] (w.alloc (.cells #[] 5)) = some (v', w') ∧ Fresh w l (v', w') := by
  have hb : Bel w (w.alloc (.cells #[] 5)) := (Bel.refl w).alloc _
  obtain ⟨v', w', e, ho, hg, hk⟩ := app34 (own0 w) (hv.bel hb) (by simp; omega)
  refine ⟨v', w', e, (hb.thenChg (Chg.of_grown hg)).bel fun k hk h => ?_, by simpa using ho, fun k hk' => ?_⟩
  · simp only [Value.ownBlock, Option.some.injEq] at h; omega
  · rcases hk k hk' with h | h
    · simp only [Value.ownBlock, Option.some.injEq] at h; omega
    · simp at h; omega

set_option maxRecDepth 100000 in
theorem k35 {w : World} {s : Value} {l : List By} (hv : View By.cs 1 w s l) (hm : l.length ≤ 1000) : Brings (Xcall Tryd.prog (Value.func (Fn.func 35) #[] #[]) #[s] w) (Fresh w l) := by
  refine e35 ?_
  unfold s35
  have hv' := hv
  obtain ⟨x, cap, rfl, hc1, hc2, hnil, hel⟩ := hv
  rw [Qb_eqlL (P := Tryd.prog) und22]
  simp only [go_sem]
  cases x with
  | none =>
    simp only [Option.isNone_none, go_sem]
    have : l = [] := List.length_eq_zero_iff.1 (by have := hnil rfl; omega)
    subst this
    exact .ret ⟨Bel.refl _, World.ownsRow_nil w 0 5 1, fun k hk => by cases hk⟩
  | some a =>
    simp only [Option.isNone_some, go_sem, lit0]
    obtain ⟨v', w', e, hf⟩ := copy34 hv' hm
    rw [e]
    simp only [go_sem]
    exact .ret hf

set_option maxRecDepth 100000 in
theorem elem34 : Tryd.prog.elem 22 = 5 := by kernel_rfl
set_option maxRecDepth 100000 in
theorem und22' : Tryd.prog.underlying 22 = some (.slice (Tryd.prog.elem 22)) := by rw [elem34]; exact und22

set_option maxRecDepth 100000 in
theorem cut_hi {s : Option Addr} {n cap : Nat} {h : Int} {w : World} (h0 : 0 ≤ h) (h1 : h ≤ cap) : Qslice Tryd.prog 22 (.slice s n cap) none (some (.int .i64 h)) none w = some (sliced s 0 h.toNat cap 1) := by
  obtain ⟨i, hi, hs⟩ := inf5
  unfold Qslice qv
  rw [run_sliceAt_slice _ _ _ _ _ _ und22', run_slice_h _ _ _ _ _ und22' _ _ h0 h1, elem34, run_size hi, hs]
  rfl
set_option maxRecDepth 100000 in
theorem cut_lo {s : Option Addr} {n cap : Nat} {l : Int} {w : World} (h0 : 0 ≤ l) (h1 : l ≤ n) : Qslice Tryd.prog 22 (.slice s n cap) (some (.int .i64 l)) none none w = some (sliced s l.toNat n cap 1) := by
  obtain ⟨i, hi, hs⟩ := inf5
  unfold Qslice qv
  rw [run_sliceAt_slice _ _ _ _ _ _ und22', run_slice_l _ _ _ _ _ und22' _ _ h0 h1, elem34, run_size hi, hs]
  rfl
set_option maxRecDepth 100000 in
theorem cut_lh {s : Option Addr} {n cap : Nat} {l h : Int} {w : World} (h0 : 0 ≤ l) (h1 : l ≤ h) (h2 : h ≤ cap) : Qslice Tryd.prog 22 (.slice s n cap) (some (.int .i64 l)) (some (.int .i64 h)) none w = some (sliced s l.toNat h.toNat cap 1) := by
  obtain ⟨i, hi, hs⟩ := inf5
  unfold Qslice qv
  rw [run_sliceAt_slice _ _ _ _ _ _ und22', run_slice_lh _ _ _ _ _ und22' _ _ _ _ h0 h1 h2, elem34, run_size hi, hs]
  rfl
set_option maxRecDepth 100000 in
theorem cut_lhm {s : Option Addr} {n cap : Nat} {l h m : Int} {w : World} (h0 : 0 ≤ l) (h1 : l ≤ h) (h2 : h ≤ m) (h3 : m ≤ cap) : Qslice Tryd.prog 22 (.slice s n cap) (some (.int .i64 l)) (some (.int .i64 h)) (some (.int .i64 m)) w = some (sliced s l.toNat h.toNat m.toNat 1) := by
  obtain ⟨i, hi, hs⟩ := inf5
  unfold Qslice qv
  rw [run_sliceAt_slice _ _ _ _ _ _ und22', run_slice_lhm _ _ _ _ _ und22' _ _ _ _ _ _ h0 h1 h2 h3, elem34, run_size hi, hs]
  rfl

set_option maxRecDepth 100000 in
theorem zeros5 (n : Nat) : ∀ u ∈ (Builtin.zeroCells By.zero.v.cells n).toList, u.oneCell' = true := by
  intro u hu
  unfold Builtin.zeroCells at hu
  simp only [Array.toList_map, List.mem_map] at hu
  obtain ⟨k, _, rfl⟩ := hu
  have : ∀ j, j < 1 → (By.zero.v.cells[j]!).oneCell' = true := by decide
  exact this _ (Nat.mod_lt _ (by decide))

set_option maxRecDepth 100000 in
/-- Elements beyond a row's new end are struck out. -/
theorem clear34 {w : World} {g o n c : Nat} {cur : Array Value} (hg : w.heap[g]? = some (.cells cur 5 (0, 0))) (hn : 0 < n) (hfit : o + n * 1 ≤ cur.size) :
    Xbi Tryd.prog .clear #[22] 0 #[.slice (some ⟨g, o, none⟩) n c] w = some (.tuple #[], w.setRow g (cur.toList.take o ++ (Builtin.zeroCells By.zero.v.cells n).toList ++ cur.toList.drop (o + n * 1)).toArray) := by
  have hz := zero5 w
  have hsz : (Builtin.zeroCells By.zero.v.cells n).size = n * 1 := size_zeroCells _ _
  have hst := run_storeCells_at Tryd.prog g o 5 (Builtin.zeroCells By.zero.v.cells n).toList 0 cur w hg (by simp [hsz]; omega) (zeros5 n)
  simp only [Nat.add_zero, Array.length_toList, hsz] at hst
  obtain ⟨m, rfl⟩ : ∃ m, n = m + 1 := ⟨n - 1, by omega⟩
  have : (Builtin.clear_ #[22] 0 #[.slice (some ⟨g, o, none⟩) (m + 1) c]).run Tryd.prog w = .ok (.tuple #[]) (w.setRow g (cur.toList.take o ++ (Builtin.zeroCells By.zero.v.cells (m + 1)).toList ++ cur.toList.drop (o + (m + 1) * 1)).toArray) := by
    simp only [Builtin.clear_, List.getElem?_toArray, List.getElem?_cons_zero, Sem.run_bind, run_underlying und22, Result.andThen_ok, hz, hst, Sem.run_pure]
  unfold Xbi
  simp only [builtin, Sem.run_bind, this, Result.andThen_ok]
  rfl

set_option maxRecDepth 100000 in
theorem sliced_at {g m s l h : Nat} : sliced (some ⟨g, 0, none⟩) l h m s = .slice (some ⟨g, if m = l then 0 else l * s, none⟩) (h - l) (m - l) := by
  unfold sliced
  by_cases e : m = l
  · simp [e]
  · simp only [e, if_false, Option.map_some, add_0]

set_option maxRecDepth 100000 in
theorem cutHi {g n cap : Nat} {h : Nat} {w : World} (h1 : h ≤ cap) : Qslice Tryd.prog 22 (.slice (some ⟨g, 0, none⟩) n cap) none (some (.int .i64 h)) none w = some (.slice (some ⟨g, 0, none⟩) h cap) := by
  rw [cut_hi (by omega) (by omega), Int.toNat_natCast, sliced_at, show (if cap = 0 then 0 else 0 * 1) = 0 by split <;> rfl, Nat.sub_zero, Nat.sub_zero]
set_option maxRecDepth 100000 in
theorem cutLo {g n cap : Nat} {l : Nat} {w : World} (h1 : l ≤ n) : Qslice Tryd.prog 22 (.slice (some ⟨g, 0, none⟩) n cap) (some (.int .i64 l)) none none w = some (.slice (some ⟨g, if cap = l then 0 else l * 1, none⟩) (n - l) (cap - l)) := by
  rw [cut_lo (by omega) (by omega), Int.toNat_natCast, sliced_at]
set_option maxRecDepth 100000 in
theorem cutLh {g n cap : Nat} {l h : Nat} {w : World} (h1 : l ≤ h) (h2 : h ≤ cap) : Qslice Tryd.prog 22 (.slice (some ⟨g, 0, none⟩) n cap) (some (.int .i64 l)) (some (.int .i64 h)) none w = some (.slice (some ⟨g, if cap = l then 0 else l * 1, none⟩) (h - l) (cap - l)) := by
  rw [cut_lh (by omega) (by omega) (by omega), Int.toNat_natCast, Int.toNat_natCast, sliced_at]

set_option maxRecDepth 100000 in
theorem flat_drop (l : List By) (k : Nat) : (l.flatMap By.cs).drop (k * 1) = (l.drop k).flatMap By.cs := by
  induction l generalizing k with
  | nil => simp
  | cons x l ih =>
    cases k with
    | zero => simp
    | succ k =>
      rw [List.flatMap_cons, List.drop_append, Nat.add_mul, List.drop_of_length_le (by show 1 ≤ _; omega), List.nil_append, show k * 1 + 1 * 1 - x.cs.length = k * 1 by show k * 1 + 1 * 1 - 1 = _; omega, ih, List.drop_succ_cons]
set_option maxRecDepth 100000 in
theorem flat_take (l : List By) (k : Nat) : (l.flatMap By.cs).take (k * 1) = (l.take k).flatMap By.cs := by
  induction l generalizing k with
  | nil => simp
  | cons x l ih =>
    cases k with
    | zero => simp
    | succ k =>
      rw [List.flatMap_cons, List.take_append, Nat.add_mul, List.take_of_length_le (by show 1 ≤ _; omega), show k * 1 + 1 * 1 - x.cs.length = k * 1 by show k * 1 + 1 * 1 - 1 = _; omega, ih, List.take_succ_cons, List.flatMap_cons]

set_option maxRecDepth 100000 in
theorem mem_erase {l : List By} {i : Nat} {x : By} (h : x ∈ l.eraseIdx i) : x ∈ l := List.mem_of_mem_eraseIdx h


end By
end Go.Proofs.YtphokckbcmiddaaDoor.Sq
