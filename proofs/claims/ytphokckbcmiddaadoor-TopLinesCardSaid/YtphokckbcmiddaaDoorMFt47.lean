/- Arguments opened. -/
import Derived.Test.YtphokckbcmiddaaDoorMFt33
import Derived.Test.YtphokckbcmiddaaDoorMFtS
namespace Go.Proofs.YtphokckbcmiddaaDoor
open Go Go.Ev Go.RowKit
open Go.Proofs

set_option maxRecDepth 100000 in
theorem bytes_of {w : World} {r : Reach} {b n : Nat} {v : Value} (hw : Value.okWide Tryd.prog w r b 22 v) (h : Okc Tryd.prog w n 22 v.cells.toList) : ∃ l : List Int, Vw w v l ∧ okB l := by
  obtain ⟨l, hv, hl⟩ := view_int und22 Tryd.underlying5 ce5 (cells_slice und22 hw) h
  refine ⟨l, hv, fun c hc => ?_⟩
  obtain ⟨m, rfl, hm⟩ := wf_u (k := .u8) rfl (hl c hc)
  have : m < 256 := hm
  omega
theorem u32_of {n : Int} (h : (Lit.int .u32 n).wf = true) : 0 ≤ n ∧ n < 4294967296 := by
  obtain ⟨m, rfl, hm⟩ := wf_u (k := .u32) rfl h
  have : m < 4294967296 := hm
  omega
theorem u16_of {n : Int} (h : (Lit.int .u16 n).wf = true) : 0 ≤ n ∧ n ≤ 65535 := by
  obtain ⟨m, rfl, hm⟩ := wf_u (k := .u16) rfl h
  have : m < 65536 := hm
  omega

end Go.Proofs.YtphokckbcmiddaaDoor
