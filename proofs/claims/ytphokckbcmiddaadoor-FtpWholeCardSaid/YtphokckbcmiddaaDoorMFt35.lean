/- The laws' walks, for the rows. -/
import Derived.Test.YtphokckbcmiddaaDoorMFt33
import Derived.Test.YtphokckbcmiddaaDoorMFt34
/- The laws' walks, for the rows. -/
namespace Go.Proofs.YtphokckbcmiddaaDoor
open Go Go.Ev Go.RowKit
open Go.Proofs

set_option maxRecDepth 100000 in
theorem bytes_of {w : World} {r : Reach} {b n : Nat} {v : Value} (hw : Value.okWide Tryd.prog w r b 22 v) (h : Okc Tryd.prog w n 22 v.cells.toList) : ∃ l : List Int, Vw w v l ∧ okB l := by
  obtain ⟨l, hv, hl⟩ := view_int und22 Tryd.underlying5 ce5 (cells_slice und22 hw) h
  refine ⟨l, hv, fun c hc => ?_⟩
  obtain ⟨m, rfl, hm⟩ := wf_u (k := .u8) rfl (hl c hc)
  have : m < 256 := hm
  omega
theorem u32_of {n : Int} (h : (Lit.int .u32 n).wf = true) : 0 ≤ n ∧ n < 4294967296 := by
  obtain ⟨m, rfl, hm⟩ := wf_u (k := .u32) rfl h
  have : m < 4294967296 := hm
  omega
theorem u16_of {n : Int} (h : (Lit.int .u16 n).wf = true) : 0 ≤ n ∧ n ≤ 65535 := by
  obtain ⟨m, rfl, hm⟩ := wf_u (k := .u16) rfl h
  have : m < 65536 := hm
  omega

set_option maxRecDepth 100000 in
theorem row5 {w : World} (hT : Tab w) {a p : Int} (h1 : (Lit.int .u32 a).wf = true) (h2 : (Lit.int .u16 p).wf = true) :
    Calls Tryd.prog 5 #[.int .u32 a, .int .u16 p] w fun e w' => e = .returned (.bool true) ∧ Below w.heap.size w w' :=
  law_of (law5 hT (u32_of h1).1 (u32_of h1).2 (u16_of h2).1 (u16_of h2).2) fun _ => c5
set_option maxRecDepth 100000 in
theorem row4 {w : World} (hT : Tab w) {r : Reach} {b n : Nat} {s : Value} {back : Bool} (hw : Value.okWide Tryd.prog w r b 22 s) (h : Okc Tryd.prog w n 22 s.cells.toList) :
    Calls Tryd.prog 4 #[s, .bool back] w fun e w' => e = .returned (.bool true) ∧ Below w.heap.size w w' := by
  obtain ⟨l, hv, hl⟩ := bytes_of hw h
  exact law_of (law4 hT hv hl) fun _ => c4
set_option maxRecDepth 100000 in
theorem row8 {w : World} (hT : Tab w) {r : Reach} {b n : Nat} {s : Value} {back : Bool} (hw : Value.okWide Tryd.prog w r b 22 s) (h : Okc Tryd.prog w n 22 s.cells.toList) :
    Calls Tryd.prog 8 #[s, .bool back] w fun e w' => e = .returned (.bool true) ∧ Below w.heap.size w w' := by
  obtain ⟨l, hv, hl⟩ := bytes_of hw h
  exact law_of (law8 hT hv hl) fun _ => c8
set_option maxRecDepth 100000 in
theorem row7 {w : World} (hT : Tab w) {r r2 : Reach} {b n b2 n2 : Nat} {s d : Value} {back : Bool} (hw : Value.okWide Tryd.prog w r b 22 s) (h : Okc Tryd.prog w n 22 s.cells.toList) (hw2 : Value.okWide Tryd.prog w r2 b2 42 d) (h2 : Okc Tryd.prog w n2 42 d.cells.toList) :
    Calls Tryd.prog 7 #[s, .bool back, d] w fun e w' => e = .returned (.bool true) ∧ Below w.heap.size w w' := by
  obtain ⟨l, hv, hl⟩ := bytes_of hw h
  obtain ⟨x, rfl, ok1, ok2⟩ := open42 hw2 h2
  exact law_of (law7 hT hv hl (u32_of ok1).1 (u32_of ok1).2 (u16_of ok2).1 (u16_of ok2).2) fun _ => c7

end Go.Proofs.YtphokckbcmiddaaDoor
