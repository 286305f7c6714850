/- Rows of one's own of Pt. -/
import Derived.Test.YtphokckbcmiddaaDoorMFb
import Derived.Test.YtphokckbcmiddaaDoorMFtT
import Derived.Test.YtphokckbcmiddaaDoorMFtS
namespace Go.Proofs.YtphokckbcmiddaaDoor.Sq
open Go Go.Ev
open Go.Proofs

namespace Pt
set_option maxRecDepth 100000 in
theorem lens (l : List Pt) : ∀ y ∈ l, (Pt.cs y).length = 5 := fun _ _ => rfl
set_option maxRecDepth 100000 in
theorem und80 : Tryd.prog.underlying 80 = some (.slice 85) := by kernel_rfl

set_option maxRecDepth 100000 in
/-- An element of a slice of rules, read. -/
theorem getR {w : World} {s : Value} {l : List Pt} (h : View Pt.cs 5 w s l) {n : Int} (h0 : 0 ≤ n) (h1 : n < l.length) :
    ∃ y g o, l[n.toNat]? = some y ∧ s.ownBlock = some g ∧ (∀ w', QindexAddr Tryd.prog 80 s (.int .i64 n) w' = some (.pointer (some ⟨g, o, none⟩))) ∧ CellsAt y.cs w g o := by
  obtain ⟨i, hi, hs⟩ := inf85
  exact h.get und80 hi hs h0 h1

set_option maxRecDepth 100000 in
theorem lit64 (x : Pt) (w : World) : XbuildSlice Tryd.prog 80 1 #[(0, x.v)] w = some (.slice (some ⟨w.heap.size, 0, none⟩) 1 1, w.alloc (.cells x.cs.toArray 85)) := by kernel_rfl
set_option maxRecDepth 100000 in
theorem litView (x : Pt) (w : World) : View Pt.cs 5 (w.alloc (.cells x.cs.toArray 85)) (.slice (some ⟨w.heap.size, 0, none⟩) 1 1) [x] :=
  ⟨_, 1, rfl, Nat.le_refl _, by decide, (fun h => by cases h), fun k y hk => by
    cases k with
    | zero => simp at hk; subst hk; exact ⟨_, 0, rfl, by simpa using x.new w⟩
    | succ k => simp at hk⟩

set_option maxRecDepth 100000 in
theorem app64 {w : World} {v s : Value} {l m : List Pt} (ho : w.ownsRow 0 85 5 v l.length (l.flatMap Pt.cs)) (hv : View Pt.cs 5 w s m) (hs : l.length + m.length ≤ 1000000) :
    ∃ v' w', Xbi Tryd.prog .append #[80, 80] 80 #[v, s] w = some (v', w') ∧ w'.ownsRow 0 85 5 v' (l ++ m).length ((l ++ m).flatMap Pt.cs) ∧ w.grownBy w' v.ownBlock ∧ (∀ k, v'.ownBlock = some k → v.ownBlock = some k ∨ w.heap.size ≤ k) := by
  obtain ⟨i, hi, hz, h1, h2⟩ : ∃ i, Tryd.prog.info? 85 = some i ∧ i.zero = some Pt.zero.v ∧ i.size = 5 ∧ i.bytes = 40 :=
    ⟨(Tryd.prog.info? 85).get (by kernel_rfl), by kernel_rfl, by kernel_rfl, by kernel_rfl, by kernel_rfl⟩
  exact Xappend und80 hi hz h1 h2 rfl (by omega) ho hv (Pt.lens m) (fun y _ u hu => Pt.one1 y u (by simpa [Pt.v, Value.cells] using hu)) (by omega) (by simp only [maxLen]; omega)

set_option maxRecDepth 100000 in
theorem inf80 : ∃ i, Tryd.prog.info? 80 = some i ∧ i.size = 1 := ⟨(Tryd.prog.info? 80).get (by kernel_rfl), by kernel_rfl, by kernel_rfl⟩

set_option maxRecDepth 100000 in
/-- The variable of an object gets another slice. -/
theorem store80 {tt : TypeId} {w : World} {a : Nat} {sl sl' : Value} (hv : w.heap[a]? = some (.cells #[sl] tt (0, 0))) (h : ∃ x n c, sl' = .slice x n c) :
    Xstore Tryd.prog 80 (.pointer (some ⟨a, 0, none⟩)) sl' w = some (undef, w.setRow a #[sl']) := by
  obtain ⟨i, hi, hs⟩ := inf80
  obtain ⟨x, n, c, rfl⟩ := h
  exact Xstore_var hi (by rw [hs]; rfl) hv (by rw [hs]; rfl) (by simp [Value.cells, Value.oneCell'])
set_option maxRecDepth 100000 in
theorem owns_slice {w : World} {base : Nat} {e : TypeId} {size n : Nat} {v : Value} {xs : List Value} (h : w.ownsRow base e size v n xs) : ∃ x n c, v = .slice x n c := by
  obtain ⟨_, ⟨rfl, _⟩ | ⟨g, cap, cur, rfl, _⟩⟩ := h <;> exact ⟨_, _, _, rfl⟩

set_option maxRecDepth 100000 in
theorem lit0 (w : World) : XbuildSlice Tryd.prog 80 0 #[] w = some (.slice (some ⟨w.heap.size, 0, none⟩) 0 0, w.alloc (.cells #[] 85)) := by kernel_rfl
set_option maxRecDepth 100000 in
theorem own0 (w : World) : (w.alloc (.cells #[] 85)).ownsRow 0 85 5 (.slice (some ⟨w.heap.size, 0, none⟩) 0 0) ([] : List Pt).length (([] : List Pt).flatMap Pt.cs) :=
  ⟨rfl, .inr ⟨w.heap.size, 0, #[], rfl, Nat.zero_le _, (MapKept.heap_alloc w _).1, Nat.le_refl _, Nat.zero_le _, rfl, rfl⟩⟩

/-- A new slice of the same. -/
def Fresh (w : World) (l : List Pt) (r : Value × World) : Prop :=
  Bel w r.2 ∧ r.2.ownsRow 0 85 5 r.1 l.length (l.flatMap Pt.cs) ∧ ∀ k, r.1.ownBlock = some k → w.heap.size ≤ k

set_option maxRecDepth 100000 in
/-- append([]T{}, s...) -/
theorem copy64 {w : World} {s : Value} {l : List Pt} (hv : View Pt.cs 5 w s l) (hm : l.length ≤ 1000) :
    ∃ v' w', Xbi Tryd.prog .append #[80, 80] 80 #[.slice (some ⟨w.heap.size, 0, none⟩) 0 0, s] (w.alloc (.cells #[] 85)) = some (v', w') ∧ Fresh w l (v', w') := by
  have hb : Bel w (w.alloc (.cells #[] 85)) := (Bel.refl w).alloc _
  obtain ⟨v', w', e, ho, hg, hk⟩ := app64 (own0 w) (hv.bel hb) (by simp; omega)
  refine ⟨v', w', e, (hb.thenChg (Chg.of_grown hg)).bel fun k hk h => ?_, by simpa using ho, fun k hk' => ?_⟩
  · simp only [Value.ownBlock, Option.some.injEq] at h; omega
  · rcases hk k hk' with h | h
    · simp only [Value.ownBlock, Option.some.injEq] at h; omega
    · simp at h; omega

set_option maxRecDepth 100000 in
theorem elem64 : Tryd.prog.elem 80 = 85 := by kernel_rfl
set_option maxRecDepth 100000 in
theorem und80' : Tryd.prog.underlying 80 = some (.slice (Tryd.prog.elem 80)) := by rw [elem64]; exact und80

set_option maxRecDepth 100000 in
theorem cut_hi {s : Option Addr} {n cap : Nat} {h : Int} {w : World} (h0 : 0 ≤ h) (h1 : h ≤ cap) : Qslice Tryd.prog 80 (.slice s n cap) none (some (.int .i64 h)) none w = some (sliced s 0 h.toNat cap 5) := by
  obtain ⟨i, hi, hs⟩ := inf85
  unfold Qslice qv
  rw [run_sliceAt_slice _ _ _ _ _ _ und80', run_slice_h _ _ _ _ _ und80' _ _ h0 h1, elem64, run_size hi, hs]
  rfl
set_option maxRecDepth 100000 in
theorem cut_lo {s : Option Addr} {n cap : Nat} {l : Int} {w : World} (h0 : 0 ≤ l) (h1 : l ≤ n) : Qslice Tryd.prog 80 (.slice s n cap) (some (.int .i64 l)) none none w = some (sliced s l.toNat n cap 5) := by
  obtain ⟨i, hi, hs⟩ := inf85
  unfold Qslice qv
  rw [run_sliceAt_slice _ _ _ _ _ _ und80', run_slice_l _ _ _ _ _ und80' _ _ h0 h1, elem64, run_size hi, hs]
  rfl
set_option maxRecDepth 100000 in
theorem cut_lh {s : Option Addr} {n cap : Nat} {l h : Int} {w : World} (h0 : 0 ≤ l) (h1 : l ≤ h) (h2 : h ≤ cap) : Qslice Tryd.prog 80 (.slice s n cap) (some (.int .i64 l)) (some (.int .i64 h)) none w = some (sliced s l.toNat h.toNat cap 5) := by
  obtain ⟨i, hi, hs⟩ := inf85
  unfold Qslice qv
  rw [run_sliceAt_slice _ _ _ _ _ _ und80', run_slice_lh _ _ _ _ _ und80' _ _ _ _ h0 h1 h2, elem64, run_size hi, hs]
  rfl
set_option maxRecDepth 100000 in
theorem cut_lhm {s : Option Addr} {n cap : Nat} {l h m : Int} {w : World} (h0 : 0 ≤ l) (h1 : l ≤ h) (h2 : h ≤ m) (h3 : m ≤ cap) : Qslice Tryd.prog 80 (.slice s n cap) (some (.int .i64 l)) (some (.int .i64 h)) (some (.int .i64 m)) w = some (sliced s l.toNat h.toNat m.toNat 5) := by
  obtain ⟨i, hi, hs⟩ := inf85
  unfold Qslice qv
  rw [run_sliceAt_slice _ _ _ _ _ _ und80', run_slice_lhm _ _ _ _ _ und80' _ _ _ _ _ _ h0 h1 h2 h3, elem64, run_size hi, hs]
  rfl

set_option maxRecDepth 100000 in
theorem zeros63 (n : Nat) : ∀ u ∈ (Builtin.zeroCells Pt.zero.v.cells n).toList, u.oneCell' = true := by
  intro u hu
  unfold Builtin.zeroCells at hu
  simp only [Array.toList_map, List.mem_map] at hu
  obtain ⟨k, _, rfl⟩ := hu
  have : ∀ j, j < 5 → (Pt.zero.v.cells[j]!).oneCell' = true := by decide
  exact this _ (Nat.mod_lt _ (by decide))

set_option maxRecDepth 100000 in
/-- Elements beyond a row's new end are struck out. -/
theorem clear64 {w : World} {g o n c : Nat} {cur : Array Value} (hg : w.heap[g]? = some (.cells cur 85 (0, 0))) (hn : 0 < n) (hfit : o + n * 5 ≤ cur.size) :
    Xbi Tryd.prog .clear #[80] 0 #[.slice (some ⟨g, o, none⟩) n c] w = some (.tuple #[], w.setRow g (cur.toList.take o ++ (Builtin.zeroCells Pt.zero.v.cells n).toList ++ cur.toList.drop (o + n * 5)).toArray) := by
  have hz := zero85 w
  have hsz : (Builtin.zeroCells Pt.zero.v.cells n).size = n * 5 := size_zeroCells _ _
  have hst := run_storeCells_at Tryd.prog g o 85 (Builtin.zeroCells Pt.zero.v.cells n).toList 0 cur w hg (by simp [hsz]; omega) (zeros63 n)
  simp only [Nat.add_zero, Array.length_toList, hsz] at hst
  obtain ⟨m, rfl⟩ : ∃ m, n = m + 1 := ⟨n - 1, by omega⟩
  have : (Builtin.clear_ #[80] 0 #[.slice (some ⟨g, o, none⟩) (m + 1) c]).run Tryd.prog w = .ok (.tuple #[]) (w.setRow g (cur.toList.take o ++ (Builtin.zeroCells Pt.zero.v.cells (m + 1)).toList ++ cur.toList.drop (o + (m + 1) * 5)).toArray) := by
    simp only [Builtin.clear_, List.getElem?_toArray, List.getElem?_cons_zero, Sem.run_bind, run_underlying und80, Result.andThen_ok, hz, hst, Sem.run_pure]
  unfold Xbi
  simp only [builtin, Sem.run_bind, this, Result.andThen_ok]
  rfl

set_option maxRecDepth 100000 in
theorem sliced_at {g m s l h : Nat} : sliced (some ⟨g, 0, none⟩) l h m s = .slice (some ⟨g, if m = l then 0 else l * s, none⟩) (h - l) (m - l) := by
  unfold sliced
  by_cases e : m = l
  · simp [e]
  · simp only [e, if_false, Option.map_some, add_0]

set_option maxRecDepth 100000 in
theorem cutHi {g n cap : Nat} {h : Nat} {w : World} (h1 : h ≤ cap) : Qslice Tryd.prog 80 (.slice (some ⟨g, 0, none⟩) n cap) none (some (.int .i64 h)) none w = some (.slice (some ⟨g, 0, none⟩) h cap) := by
  rw [cut_hi (by omega) (by omega), Int.toNat_natCast, sliced_at, show (if cap = 0 then 0 else 0 * 5) = 0 by split <;> rfl, Nat.sub_zero, Nat.sub_zero]
set_option maxRecDepth 100000 in
theorem cutLo {g n cap : Nat} {l : Nat} {w : World} (h1 : l ≤ n) : Qslice Tryd.prog 80 (.slice (some ⟨g, 0, none⟩) n cap) (some (.int .i64 l)) none none w = some (.slice (some ⟨g, if cap = l then 0 else l * 5, none⟩) (n - l) (cap - l)) := by
  rw [cut_lo (by omega) (by omega), Int.toNat_natCast, sliced_at]
set_option maxRecDepth 100000 in
theorem cutLh {g n cap : Nat} {l h : Nat} {w : World} (h1 : l ≤ h) (h2 : h ≤ cap) : Qslice Tryd.prog 80 (.slice (some ⟨g, 0, none⟩) n cap) (some (.int .i64 l)) (some (.int .i64 h)) none w = some (.slice (some ⟨g, if cap = l then 0 else l * 5, none⟩) (h - l) (cap - l)) := by
  rw [cut_lh (by omega) (by omega) (by omega), Int.toNat_natCast, Int.toNat_natCast, sliced_at]

set_option maxRecDepth 100000 in
theorem flat_drop (l : List Pt) (k : Nat) : (l.flatMap Pt.cs).drop (k * 5) = (l.drop k).flatMap Pt.cs := by
  induction l generalizing k with
  | nil => simp
  | cons x l ih =>
    cases k with
    | zero => simp
    | succ k =>
      rw [List.flatMap_cons, List.drop_append, Nat.add_mul, List.drop_of_length_le (by show 5 ≤ _; omega), List.nil_append, show k * 5 + 1 * 5 - x.cs.length = k * 5 by show k * 5 + 1 * 5 - 5 = _; omega, ih, List.drop_succ_cons]
set_option maxRecDepth 100000 in
theorem flat_take (l : List Pt) (k : Nat) : (l.flatMap Pt.cs).take (k * 5) = (l.take k).flatMap Pt.cs := by
  induction l generalizing k with
  | nil => simp
  | cons x l ih =>
    cases k with
    | zero => simp
    | succ k =>
      rw [List.flatMap_cons, List.take_append, Nat.add_mul, List.take_of_length_le (by show 5 ≤ _; omega), show k * 5 + 1 * 5 - x.cs.length = k * 5 by show k * 5 + 1 * 5 - 5 = _; omega, ih, List.take_succ_cons, List.flatMap_cons]

set_option maxRecDepth 100000 in
theorem mem_erase {l : List Pt} {i : Nat} {x : Pt} (h : x ∈ l.eraseIdx i) : x ∈ l := List.mem_of_mem_eraseIdx h


end Pt
end Go.Proofs.YtphokckbcmiddaaDoor.Sq
