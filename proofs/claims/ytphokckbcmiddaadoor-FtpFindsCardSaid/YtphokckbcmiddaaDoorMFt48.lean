/- The row of the law that the reference finds the same. -/
import Derived.Test.YtphokckbcmiddaaDoorMFt46
import Derived.Test.YtphokckbcmiddaaDoorMFt47
import Derived.SizedLaws
namespace Go.Proofs.YtphokckbcmiddaaDoor
open Go Go.Ev Go.RowKit
open Go.Proofs

theorem bytes5 : Tryd.prog.bytesOf 5 = 1 := by kernel_rfl
/-- How long a slice of bytes is that came in. -/
theorem len_of {H : Type} {enc : TypeId × Value → H} {W : World} {sp : Nat → Bool} {held : Bool} {ts : List TypeId} {ds : List (DataW H)} (hz : (DataW.weightsEach Tryd.prog ts ds).all (· ≤ reachBytes) = true) {j : Nat} {d : DataW H} {v : Value} {p : List MemPlace}
    (ht : ts[j]? = some 22) (hd : ds[j]? = some d) (h : DataW.Trod enc Tryd.prog W 0 sp held 22 v d p) (hc : v.cells.toList = [v]) {l : List Int} (hv : Vw W v l) : l.length ≤ 140737488351232 := by
  obtain ⟨fuel, h⟩ := h
  rw [hc] at h
  obtain ⟨x, cap, rfl, _⟩ := hv
  rcases DataW.trod_slice und22 h with ⟨e, _⟩ | ⟨a, len, cap', elems, rest, n, _, e, ex, _, _, _, hlen, _⟩
  · injection e with e _
    injection e with _ e _
    omega
  · injection e with e _
    injection e with _ e _
    injection ex with ex _
    subst ex
    have := sized_slice hz ht hd und22
    rw [bytes5, List.length_map, List.length_map, Nat.mul_one] at this
    have hr : reachBytes = 140737488351232 := by decide
    omega

set_option maxRecDepth 100000 in
theorem row3 {w : World} (hT : Tab w) {H : Type} {enc : TypeId × Value → H} {sp : Nat → Bool} {held : Bool} {ts : List TypeId} {ds : List (DataW H)} (hz : (DataW.weightsEach Tryd.prog ts ds).all (· ≤ reachBytes) = true) {d : DataW H} {p : List MemPlace} {r : Reach} {b n : Nat} {s : Value} {back : Bool}
    (ht : ts[0]? = some 22) (hd : ds[0]? = some d) (h0 : DataW.Trod enc Tryd.prog w 0 sp held 22 s d p) (hw : Value.okWide Tryd.prog w r b 22 s) (h : Okc Tryd.prog w n 22 s.cells.toList) :
    Calls Tryd.prog 3 #[s, .bool back] w fun e w' => e = .returned (.bool true) ∧ Below w.heap.size w w' := by
  obtain ⟨l, hv, hl⟩ := bytes_of hw h
  have := len_of hz ht hd h0 (cells_slice und22 hw) hv
  exact law_of (law3 hT hv hl (by omega)) fun _ => c3

end Go.Proofs.YtphokckbcmiddaaDoor
