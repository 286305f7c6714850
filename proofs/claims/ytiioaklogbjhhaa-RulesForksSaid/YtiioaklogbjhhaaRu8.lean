/- Delete in place; Drop. -/
import Derived.Test.YtiioaklogbjhhaaRu7
namespace Go.Proofs.Ytiioaklogbjhhaa
open Go Go.Ev
open Go.Proofs

theorem elem33 : Try.prog.elem 33 = 26 := by kernel_rfl
theorem und33' : Try.prog.underlying 33 = some (.slice (Try.prog.elem 33)) := by rw [elem33]; exact und33

theorem cut_hi {s : Option Addr} {n cap : Nat} {h : Int} {w : World} (h0 : 0 ≤ h) (h1 : h ≤ cap) : Qslice Try.prog 33 (.slice s n cap) none (some (.int .i64 h)) none w = some (sliced s 0 h.toNat cap 8) := by
  obtain ⟨i, hi, hs⟩ := inf26
  unfold Qslice qv
  rw [run_sliceAt_slice _ _ _ _ _ _ und33', run_slice_h _ _ _ _ _ und33' _ _ h0 h1, elem33, run_size hi, hs]
  rfl
theorem cut_lo {s : Option Addr} {n cap : Nat} {l : Int} {w : World} (h0 : 0 ≤ l) (h1 : l ≤ n) : Qslice Try.prog 33 (.slice s n cap) (some (.int .i64 l)) none none w = some (sliced s l.toNat n cap 8) := by
  obtain ⟨i, hi, hs⟩ := inf26
  unfold Qslice qv
  rw [run_sliceAt_slice _ _ _ _ _ _ und33', run_slice_l _ _ _ _ _ und33' _ _ h0 h1, elem33, run_size hi, hs]
  rfl
theorem cut_lh {s : Option Addr} {n cap : Nat} {l h : Int} {w : World} (h0 : 0 ≤ l) (h1 : l ≤ h) (h2 : h ≤ cap) : Qslice Try.prog 33 (.slice s n cap) (some (.int .i64 l)) (some (.int .i64 h)) none w = some (sliced s l.toNat h.toNat cap 8) := by
  obtain ⟨i, hi, hs⟩ := inf26
  unfold Qslice qv
  rw [run_sliceAt_slice _ _ _ _ _ _ und33', run_slice_lh _ _ _ _ _ und33' _ _ _ _ h0 h1 h2, elem33, run_size hi, hs]
  rfl
theorem cut_lhm {s : Option Addr} {n cap : Nat} {l h m : Int} {w : World} (h0 : 0 ≤ l) (h1 : l ≤ h) (h2 : h ≤ m) (h3 : m ≤ cap) : Qslice Try.prog 33 (.slice s n cap) (some (.int .i64 l)) (some (.int .i64 h)) (some (.int .i64 m)) w = some (sliced s l.toNat h.toNat m.toNat 8) := by
  obtain ⟨i, hi, hs⟩ := inf26
  unfold Qslice qv
  rw [run_sliceAt_slice _ _ _ _ _ _ und33', run_slice_lhm _ _ _ _ _ und33' _ _ _ _ _ _ h0 h1 h2 h3, elem33, run_size hi, hs]
  rfl

theorem zeros26 (n : Nat) : ∀ u ∈ (Builtin.zeroCells Rule.zero.v.cells n).toList, u.oneCell' = true := by
  intro u hu
  unfold Builtin.zeroCells at hu
  simp only [Array.toList_map, List.mem_map] at hu
  obtain ⟨k, _, rfl⟩ := hu
  have : ∀ j, j < 8 → (Rule.zero.v.cells[j]!).oneCell' = true := by decide
  exact this _ (Nat.mod_lt _ (by decide))

/-- Elements beyond a row's new end are struck out. -/
theorem clear33 {w : World} {g o n c : Nat} {cur : Array Value} (hg : w.heap[g]? = some (.cells cur 26 (0, 0))) (hn : 0 < n) (hfit : o + n * 8 ≤ cur.size) :
    Xbi Try.prog .clear #[33] 0 #[.slice (some ⟨g, o, none⟩) n c] w = some (.tuple #[], w.setRow g (cur.toList.take o ++ (Builtin.zeroCells Rule.zero.v.cells n).toList ++ cur.toList.drop (o + n * 8)).toArray) := by
  have hz := zero26 w
  have hsz : (Builtin.zeroCells Rule.zero.v.cells n).size = n * 8 := size_zeroCells _ _
  have hst := run_storeCells_at Try.prog g o 26 (Builtin.zeroCells Rule.zero.v.cells n).toList 0 cur w hg (by simp [hsz]; omega) (zeros26 n)
  simp only [Nat.add_zero, Array.length_toList, hsz] at hst
  obtain ⟨m, rfl⟩ : ∃ m, n = m + 1 := ⟨n - 1, by omega⟩
  have : (Builtin.clear_ #[33] 0 #[.slice (some ⟨g, o, none⟩) (m + 1) c]).run Try.prog w = .ok (.tuple #[]) (w.setRow g (cur.toList.take o ++ (Builtin.zeroCells Rule.zero.v.cells (m + 1)).toList ++ cur.toList.drop (o + (m + 1) * 8)).toArray) := by
    simp only [Builtin.clear_, List.getElem?_toArray, List.getElem?_cons_zero, Sem.run_bind, run_underlying und33, Result.andThen_ok, hz, hst, Sem.run_pure]
  unfold Xbi
  simp only [builtin, Sem.run_bind, this, Result.andThen_ok]
  rfl

end Go.Proofs.Ytiioaklogbjhhaa
