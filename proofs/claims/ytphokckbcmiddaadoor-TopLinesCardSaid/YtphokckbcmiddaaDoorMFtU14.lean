/- A new stream. -/
import Derived.Test.YtphokckbcmiddaaDoorMFtU13
import Derived.Test.YtphokckbcmiddaaDoorMFb
namespace Go.Proofs.YtphokckbcmiddaaDoor.Sq
open Go Go.Ev Go.RowKit
open Go.Proofs

theorem build82n (w : World) : Qbuild Tryd.prog 82 #[] w = some (.agg #[.slice none 0 0]) := by kernel_rfl
set_option maxRecDepth 100000 in
theorem k16 {w : World} : Brings (Xcall Tryd.prog (Value.func (Fn.func 16) #[] #[]) #[] w) (fun r => ∃ b, r.1 = .pointer (some ⟨b, 0, none⟩) ∧ Bel w r.2 ∧ St r.2 b (.slice none 0 0) [] [] ∧ w.heap.size ≤ b) := by
  refine e16 ?_
  unfold s16
  simp only [build82n, go_sem]
  exact .ret ⟨w.heap.size, rfl, (Bel.refl w).alloc _, ⟨(MapKept.heap_alloc w _).1, World.ownsRow_nil _ 0 85 5, (fun h => by cases h), fun z hz => by simp at hz, rfl, by simp⟩, Nat.le_refl _⟩

/-- Bytes, as both see them. -/
theorem by_view {w : World} {v : Value} {l : List Int} (h : View (nc .u8) 1 w v l) : View By.cs 1 w v (l.map By.mk) := by
  obtain ⟨x, cap, rfl, h1, h2, h3, h4⟩ := h
  refine ⟨x, cap, by rw [List.length_map], by rw [List.length_map]; exact h1, h2, h3, fun k y hk => ?_⟩
  rw [List.getElem?_map] at hk
  obtain ⟨z, hz, rfl⟩ := Option.map_eq_some_iff.1 hk
  exact h4 k z hz
end Go.Proofs.YtphokckbcmiddaaDoor.Sq
