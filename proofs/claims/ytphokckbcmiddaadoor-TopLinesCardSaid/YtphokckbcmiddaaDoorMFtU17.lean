/- The row of the law of lines. -/
import Derived.Test.YtphokckbcmiddaaDoorMFtU16
import Derived.Test.YtphokckbcmiddaaDoorMFt47
namespace Go.Proofs.YtphokckbcmiddaaDoor
open Go Go.Ev Go.RowKit
open Go.Proofs

set_option maxRecDepth 100000 in
theorem open_two {w : World} {r : Reach} {b n : Nat} {v : Value} {t e : TypeId} {k : IntKind} (ht : Tryd.prog.underlying t = some (.array 2 e)) (he : Tryd.prog.underlying e = some (.int k)) (hc : Tryd.prog.cellsOf e = 1) (hct : Tryd.prog.cellsOf t = 2)
    (hw : Value.okWide Tryd.prog w r b t v) (h : Okc Tryd.prog w n t v.cells.toList) : ∃ x y, v = .agg #[.int k x, .int k y] ∧ (Lit.int k x).wf = true ∧ (Lit.int k y).wf = true := by
  unfold Value.okWide at hw
  rw [ht] at hw
  obtain ⟨cs, rfl, hsz, _⟩ := hw
  rw [hct] at hsz
  cases n with
  | zero => exact h.elim
  | succ n =>
    unfold Okc at h
    rw [ht] at h
    obtain ⟨_, hf⟩ := h
    obtain ⟨l⟩ := cs
    match l, hsz with
    | [c0, c1], _ =>
      have h0 := hf 0 (by decide)
      have h1 := hf 1 (by decide)
      rw [hc] at h0 h1
      obtain ⟨x, rfl, hx⟩ := okc_int he (show Okc Tryd.prog w n e [c0] from h0)
      obtain ⟨y, rfl, hy⟩ := okc_int he (show Okc Tryd.prog w n e [c1] from h1)
      exact ⟨x, y, rfl, hx, hy⟩

set_option maxRecDepth 100000 in
theorem row9 {w : World} (hT : Tab w) {r0 r1 : Reach} {b0 n0 b1 n1 : Nat} {v0 v1 : Value} {first : Int} (hw0 : Value.okWide Tryd.prog w r0 b0 44 v0) (h0 : Okc Tryd.prog w n0 44 v0.cells.toList) (hw1 : Value.okWide Tryd.prog w r1 b1 45 v1) (h1 : Okc Tryd.prog w n1 45 v1.cells.toList) (hf : (Lit.int .u32 first).wf = true) :
    Calls Tryd.prog 9 #[v0, v1, .int .u32 first] w fun e w' => e = .returned (.bool true) ∧ Below w.heap.size w w' := by
  obtain ⟨a0, a1, rfl, x0, x1⟩ := open_two und44 Tryd.underlying24 (by kernel_rfl) (by kernel_rfl) hw0 h0
  obtain ⟨p0, p1, rfl, y0, y1⟩ := open_two und45 Tryd.underlying25 (by kernel_rfl) (by kernel_rfl) hw1 h1
  exact law_of (law9 hT (u32_of x0) (u32_of x1) (u16_of y0) (u16_of y1) (u32_of hf)) fun _ => c9

end Go.Proofs.YtphokckbcmiddaaDoor
