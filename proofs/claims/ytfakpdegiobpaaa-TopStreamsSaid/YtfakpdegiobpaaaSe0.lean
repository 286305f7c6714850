/- Structs of the package, as Lean structures. -/
import Derived.Test.YtfakpdegiobpaaaFj
import Derived.Test.YtfakpdegiobpaaaFn
namespace Go.Proofs.Ytfakpdegiobpaaa
open Go Go.Ev
open Go.Proofs
/-! ### Part: type 41 -/
structure Part where
  start : Int
  was : Int
  text : Sl
  deriving DecidableEq
def Part.cs (x : Part) : List Value := [.int .u32 x.start] ++ [.int .i64 x.was] ++ [x.text.v]
def Part.v (x : Part) : Value := .agg x.cs.toArray
def Part.ok (x : Part) : Prop := (Lit.int .u32 x.start).wf = true ∧ (Lit.int .i64 x.was).wf = true
def Part.zero : Part := ⟨0, 0, ⟨none, 0, 0⟩⟩
theorem Part.len (x : Part) : x.cs.length = 3 := rfl
theorem zero41 (w : World) : (zeroValue 41).run Try.prog w = .ok Part.zero.v w := by kernel_rfl
theorem inf41 : ∃ i, Try.prog.info? 41 = some i ∧ i.size = 3 := ⟨(Try.prog.info? 41).get (by kernel_rfl), by kernel_rfl, by kernel_rfl⟩
@[go_sem] theorem fa41x0 (g o : Nat) : QfieldAddr Try.prog 41 (.pointer (some ⟨g, o, none⟩)) 0 = some (.pointer (some ⟨g, o, none⟩)) := by kernel_rfl
@[go_sem high] theorem fb41x0 (g : Nat) : QfieldAddr Try.prog 41 (.pointer (some ⟨g, 0, none⟩)) 0 = some (.pointer (some ⟨g, 0, none⟩)) := by kernel_rfl
theorem one23 : one Try.prog 23 = true := by kernel_rfl
@[go_sem] theorem fa41x1 (g o : Nat) : QfieldAddr Try.prog 41 (.pointer (some ⟨g, o, none⟩)) 1 = some (.pointer (some ⟨g, o + 1, none⟩)) := by kernel_rfl
@[go_sem high] theorem fb41x1 (g : Nat) : QfieldAddr Try.prog 41 (.pointer (some ⟨g, 0, none⟩)) 1 = some (.pointer (some ⟨g, 1, none⟩)) := by kernel_rfl
theorem one3 : one Try.prog 3 = true := by kernel_rfl
@[go_sem] theorem fa41x2 (g o : Nat) : QfieldAddr Try.prog 41 (.pointer (some ⟨g, o, none⟩)) 2 = some (.pointer (some ⟨g, o + 2, none⟩)) := by kernel_rfl
@[go_sem high] theorem fb41x2 (g : Nat) : QfieldAddr Try.prog 41 (.pointer (some ⟨g, 0, none⟩)) 2 = some (.pointer (some ⟨g, 2, none⟩)) := by kernel_rfl
theorem one34 : one Try.prog 34 = true := by kernel_rfl
theorem Part.f0 {x : Part} {w : World} {g o : Nat} (h : CellsAt x.cs w g o) : Qload Try.prog 23 (.pointer (some ⟨g, o, none⟩)) w = some (.int .u32 x.start) := Qload_cell one23 (h 0 _ rfl)
theorem Part.b0 {x : Part} {w : World} {g : Nat} (h : CellsAt x.cs w g 0) : Qload Try.prog 23 (.pointer (some ⟨g, 0, none⟩)) w = some (.int .u32 x.start) := Qload_cell one23 (by have := h 0 _ rfl; rwa [Nat.zero_add] at this)
theorem Part.f1 {x : Part} {w : World} {g o : Nat} (h : CellsAt x.cs w g o) : Qload Try.prog 3 (.pointer (some ⟨g, o + 1, none⟩)) w = some (.int .i64 x.was) := Qload_cell one3 (h 1 _ rfl)
theorem Part.b1 {x : Part} {w : World} {g : Nat} (h : CellsAt x.cs w g 0) : Qload Try.prog 3 (.pointer (some ⟨g, 1, none⟩)) w = some (.int .i64 x.was) := Qload_cell one3 (by have := h 1 _ rfl; rwa [Nat.zero_add] at this)
theorem Part.f2 {x : Part} {w : World} {g o : Nat} (h : CellsAt x.cs w g o) : Qload Try.prog 34 (.pointer (some ⟨g, o + 2, none⟩)) w = some x.text.v := Qload_cell one34 (h 2 _ rfl)
theorem Part.b2 {x : Part} {w : World} {g : Nat} (h : CellsAt x.cs w g 0) : Qload Try.prog 34 (.pointer (some ⟨g, 2, none⟩)) w = some x.text.v := Qload_cell one34 (by have := h 2 _ rfl; rwa [Nat.zero_add] at this)
theorem Part.all {x : Part} {w : World} {g o : Nat} (h : CellsAt x.cs w g o) : Qload Try.prog 41 (.pointer (some ⟨g, o, none⟩)) w = some x.v := by
  obtain ⟨i, hi, hs⟩ := inf41
  exact Qload_cells Try.underlying41 hi (hs.trans x.len.symm) h
theorem Part.box (x : Part) (w : World) : Xbox Try.prog 41 x.v w = some (.pointer (some ⟨w.heap.size, 0, none⟩), w.alloc (.cells x.cs.toArray 41)) := nonrfl rfl
theorem Part.new (x : Part) (w : World) : CellsAt x.cs (w.alloc (.cells x.cs.toArray 41)) w.heap.size 0 := CellsAt.of (MapKept.heap_alloc w _).1
theorem Part.one1 (x : Part) : ∀ u ∈ x.v.cells.toList, u.oneCell' = true := by
  intro u hu
  have hu : u ∈ x.cs := by simpa [Part.v, Value.cells] using hu
  exact List.all_eq_true.1 (show x.cs.all (fun u => u.oneCell') = true from rfl) u hu
theorem alloc41 (w : World) : Xalloc Try.prog 41 w = some (.pointer (some ⟨w.heap.size, 0, none⟩), w.alloc (.cells Part.zero.cs.toArray 41)) := Xalloc_eq (zero41 w)
theorem store41 {x : Part} {w : World} {g : Nat} {cur : Array Value} {te : TypeId} (hg : w.heap[g]? = some (.cells cur te (0, 0))) (hc : cur.size = 3) : Xstore Try.prog 41 (.pointer (some ⟨g, 0, none⟩)) x.v w = some (undef, w.setRow g x.cs.toArray) := by
  obtain ⟨i, hi, hs⟩ := inf41
  exact Xstore_var (v := x.v) hi (by rw [hs]; rfl) hg (by rw [hs]; exact hc) x.one1
theorem put41 (x z : Part) (w : World) : Xstore Try.prog 41 (.pointer (some ⟨w.heap.size, 0, none⟩)) x.v (w.alloc (.cells z.cs.toArray 41)) = some (undef, (w.alloc (.cells z.cs.toArray 41)).setRow w.heap.size x.cs.toArray) := store41 (MapKept.heap_alloc w _).1 rfl
theorem okc41 {w : World} {n : Nat} {cs : List Value} (h : Okc Try.prog w n 41 cs) : ∃ x : Part, cs = x.cs ∧ x.ok ∧ (∃ m, Okc Try.prog w m 34 [x.text.v]) := by
  cases n with
  | zero => exact h.elim
  | succ n =>
    unfold Okc at h
    rw [Try.underlying41] at h
    obtain ⟨hl, hf⟩ := h
    rw [show Try.prog.cellsOf 41 = 3 from by kernel_rfl] at hl
    match cs, hl, hf with
    | [c0, c1, c2], _, hf =>
      have h0 := hf _ (List.mem_iff_getElem.2 ⟨0, by decide +kernel, rfl⟩)
      change Okc Try.prog w n 23 (([c0, c1, c2].drop 0).take (Try.prog.cellsOf 23)) at h0
      rw [show Try.prog.cellsOf 23 = 1 from by kernel_rfl] at h0
      obtain ⟨m0, e0, w0⟩ := okc_int (k := .u32) (by kernel_rfl) h0
      have h1 := hf _ (List.mem_iff_getElem.2 ⟨1, by decide +kernel, rfl⟩)
      change Okc Try.prog w n 3 (([c0, c1, c2].drop 1).take (Try.prog.cellsOf 3)) at h1
      rw [show Try.prog.cellsOf 3 = 1 from by kernel_rfl] at h1
      obtain ⟨m1, e1, w1⟩ := okc_int (k := .i64) (by kernel_rfl) h1
      have h2 := hf _ (List.mem_iff_getElem.2 ⟨2, by decide +kernel, rfl⟩)
      change Okc Try.prog w n 34 (([c0, c1, c2].drop 2).take (Try.prog.cellsOf 34)) at h2
      rw [show Try.prog.cellsOf 34 = 1 from by kernel_rfl] at h2
      obtain ⟨m2, e2⟩ := okc_slice Try.underlying34 h2
      refine ⟨⟨m0, m1, m2⟩, ?_, ⟨w0, w1⟩, ⟨_, by rw [← e2]; exact h2⟩⟩
      subst e0 e1 e2
      rfl
theorem open41 {w : World} {r : Reach} {b n : Nat} {v : Value} (hw : Value.okWide Try.prog w r b 41 v) (h : Okc Try.prog w n 41 v.cells.toList) : ∃ x : Part, v = x.v ∧ x.ok ∧ (∃ m, Okc Try.prog w m 34 [x.text.v]) := by
  obtain ⟨cs, rfl, _⟩ := Go.WideShapes.okWide_struct Try.underlying41 hw
  obtain ⟨x, hx, hok⟩ := okc41 h
  exact ⟨x, by rw [Part.v, ← hx]; rfl, hok⟩
/-! ### Pt: type 63 -/
structure Pt where
  start : Int
  end_ : Int
  ahead : Int
  behind : Int
  text : Sl
  deriving DecidableEq
def Pt.cs (x : Pt) : List Value := [.int .u32 x.start] ++ [.int .u32 x.end_] ++ [.int .u32 x.ahead] ++ [.int .u32 x.behind] ++ [x.text.v]
def Pt.v (x : Pt) : Value := .agg x.cs.toArray
def Pt.ok (x : Pt) : Prop := (Lit.int .u32 x.start).wf = true ∧ (Lit.int .u32 x.end_).wf = true ∧ (Lit.int .u32 x.ahead).wf = true ∧ (Lit.int .u32 x.behind).wf = true
def Pt.zero : Pt := ⟨0, 0, 0, 0, ⟨none, 0, 0⟩⟩
theorem Pt.len (x : Pt) : x.cs.length = 5 := rfl
theorem zero63 (w : World) : (zeroValue 63).run Try.prog w = .ok Pt.zero.v w := by kernel_rfl
theorem inf63 : ∃ i, Try.prog.info? 63 = some i ∧ i.size = 5 := ⟨(Try.prog.info? 63).get (by kernel_rfl), by kernel_rfl, by kernel_rfl⟩
@[go_sem] theorem fa63x0 (g o : Nat) : QfieldAddr Try.prog 63 (.pointer (some ⟨g, o, none⟩)) 0 = some (.pointer (some ⟨g, o, none⟩)) := by kernel_rfl
@[go_sem high] theorem fb63x0 (g : Nat) : QfieldAddr Try.prog 63 (.pointer (some ⟨g, 0, none⟩)) 0 = some (.pointer (some ⟨g, 0, none⟩)) := by kernel_rfl
@[go_sem] theorem fa63x1 (g o : Nat) : QfieldAddr Try.prog 63 (.pointer (some ⟨g, o, none⟩)) 1 = some (.pointer (some ⟨g, o + 1, none⟩)) := by kernel_rfl
@[go_sem high] theorem fb63x1 (g : Nat) : QfieldAddr Try.prog 63 (.pointer (some ⟨g, 0, none⟩)) 1 = some (.pointer (some ⟨g, 1, none⟩)) := by kernel_rfl
@[go_sem] theorem fa63x2 (g o : Nat) : QfieldAddr Try.prog 63 (.pointer (some ⟨g, o, none⟩)) 2 = some (.pointer (some ⟨g, o + 2, none⟩)) := by kernel_rfl
@[go_sem high] theorem fb63x2 (g : Nat) : QfieldAddr Try.prog 63 (.pointer (some ⟨g, 0, none⟩)) 2 = some (.pointer (some ⟨g, 2, none⟩)) := by kernel_rfl
@[go_sem] theorem fa63x3 (g o : Nat) : QfieldAddr Try.prog 63 (.pointer (some ⟨g, o, none⟩)) 3 = some (.pointer (some ⟨g, o + 3, none⟩)) := by kernel_rfl
@[go_sem high] theorem fb63x3 (g : Nat) : QfieldAddr Try.prog 63 (.pointer (some ⟨g, 0, none⟩)) 3 = some (.pointer (some ⟨g, 3, none⟩)) := by kernel_rfl
@[go_sem] theorem fa63x4 (g o : Nat) : QfieldAddr Try.prog 63 (.pointer (some ⟨g, o, none⟩)) 4 = some (.pointer (some ⟨g, o + 4, none⟩)) := by kernel_rfl
@[go_sem high] theorem fb63x4 (g : Nat) : QfieldAddr Try.prog 63 (.pointer (some ⟨g, 0, none⟩)) 4 = some (.pointer (some ⟨g, 4, none⟩)) := by kernel_rfl
theorem Pt.f0 {x : Pt} {w : World} {g o : Nat} (h : CellsAt x.cs w g o) : Qload Try.prog 23 (.pointer (some ⟨g, o, none⟩)) w = some (.int .u32 x.start) := Qload_cell one23 (h 0 _ rfl)
theorem Pt.b0 {x : Pt} {w : World} {g : Nat} (h : CellsAt x.cs w g 0) : Qload Try.prog 23 (.pointer (some ⟨g, 0, none⟩)) w = some (.int .u32 x.start) := Qload_cell one23 (by have := h 0 _ rfl; rwa [Nat.zero_add] at this)
theorem Pt.f1 {x : Pt} {w : World} {g o : Nat} (h : CellsAt x.cs w g o) : Qload Try.prog 23 (.pointer (some ⟨g, o + 1, none⟩)) w = some (.int .u32 x.end_) := Qload_cell one23 (h 1 _ rfl)
theorem Pt.b1 {x : Pt} {w : World} {g : Nat} (h : CellsAt x.cs w g 0) : Qload Try.prog 23 (.pointer (some ⟨g, 1, none⟩)) w = some (.int .u32 x.end_) := Qload_cell one23 (by have := h 1 _ rfl; rwa [Nat.zero_add] at this)
theorem Pt.f2 {x : Pt} {w : World} {g o : Nat} (h : CellsAt x.cs w g o) : Qload Try.prog 23 (.pointer (some ⟨g, o + 2, none⟩)) w = some (.int .u32 x.ahead) := Qload_cell one23 (h 2 _ rfl)
theorem Pt.b2 {x : Pt} {w : World} {g : Nat} (h : CellsAt x.cs w g 0) : Qload Try.prog 23 (.pointer (some ⟨g, 2, none⟩)) w = some (.int .u32 x.ahead) := Qload_cell one23 (by have := h 2 _ rfl; rwa [Nat.zero_add] at this)
theorem Pt.f3 {x : Pt} {w : World} {g o : Nat} (h : CellsAt x.cs w g o) : Qload Try.prog 23 (.pointer (some ⟨g, o + 3, none⟩)) w = some (.int .u32 x.behind) := Qload_cell one23 (h 3 _ rfl)
theorem Pt.b3 {x : Pt} {w : World} {g : Nat} (h : CellsAt x.cs w g 0) : Qload Try.prog 23 (.pointer (some ⟨g, 3, none⟩)) w = some (.int .u32 x.behind) := Qload_cell one23 (by have := h 3 _ rfl; rwa [Nat.zero_add] at this)
theorem Pt.f4 {x : Pt} {w : World} {g o : Nat} (h : CellsAt x.cs w g o) : Qload Try.prog 34 (.pointer (some ⟨g, o + 4, none⟩)) w = some x.text.v := Qload_cell one34 (h 4 _ rfl)
theorem Pt.b4 {x : Pt} {w : World} {g : Nat} (h : CellsAt x.cs w g 0) : Qload Try.prog 34 (.pointer (some ⟨g, 4, none⟩)) w = some x.text.v := Qload_cell one34 (by have := h 4 _ rfl; rwa [Nat.zero_add] at this)
theorem Pt.all {x : Pt} {w : World} {g o : Nat} (h : CellsAt x.cs w g o) : Qload Try.prog 63 (.pointer (some ⟨g, o, none⟩)) w = some x.v := by
  obtain ⟨i, hi, hs⟩ := inf63
  exact Qload_cells Try.underlying63 hi (hs.trans x.len.symm) h
theorem Pt.box (x : Pt) (w : World) : Xbox Try.prog 63 x.v w = some (.pointer (some ⟨w.heap.size, 0, none⟩), w.alloc (.cells x.cs.toArray 63)) := nonrfl rfl
theorem Pt.new (x : Pt) (w : World) : CellsAt x.cs (w.alloc (.cells x.cs.toArray 63)) w.heap.size 0 := CellsAt.of (MapKept.heap_alloc w _).1
theorem Pt.one1 (x : Pt) : ∀ u ∈ x.v.cells.toList, u.oneCell' = true := by
  intro u hu
  have hu : u ∈ x.cs := by simpa [Pt.v, Value.cells] using hu
  exact List.all_eq_true.1 (show x.cs.all (fun u => u.oneCell') = true from rfl) u hu
theorem alloc63 (w : World) : Xalloc Try.prog 63 w = some (.pointer (some ⟨w.heap.size, 0, none⟩), w.alloc (.cells Pt.zero.cs.toArray 63)) := Xalloc_eq (zero63 w)
theorem store63 {x : Pt} {w : World} {g : Nat} {cur : Array Value} {te : TypeId} (hg : w.heap[g]? = some (.cells cur te (0, 0))) (hc : cur.size = 5) : Xstore Try.prog 63 (.pointer (some ⟨g, 0, none⟩)) x.v w = some (undef, w.setRow g x.cs.toArray) := by
  obtain ⟨i, hi, hs⟩ := inf63
  exact Xstore_var (v := x.v) hi (by rw [hs]; rfl) hg (by rw [hs]; exact hc) x.one1
theorem put63 (x z : Pt) (w : World) : Xstore Try.prog 63 (.pointer (some ⟨w.heap.size, 0, none⟩)) x.v (w.alloc (.cells z.cs.toArray 63)) = some (undef, (w.alloc (.cells z.cs.toArray 63)).setRow w.heap.size x.cs.toArray) := store63 (MapKept.heap_alloc w _).1 rfl
theorem okc63 {w : World} {n : Nat} {cs : List Value} (h : Okc Try.prog w n 63 cs) : ∃ x : Pt, cs = x.cs ∧ x.ok ∧ (∃ m, Okc Try.prog w m 34 [x.text.v]) := by
  cases n with
  | zero => exact h.elim
  | succ n =>
    unfold Okc at h
    rw [Try.underlying63] at h
    obtain ⟨hl, hf⟩ := h
    rw [show Try.prog.cellsOf 63 = 5 from by kernel_rfl] at hl
    match cs, hl, hf with
    | [c0, c1, c2, c3, c4], _, hf =>
      have h0 := hf _ (List.mem_iff_getElem.2 ⟨0, by decide +kernel, rfl⟩)
      change Okc Try.prog w n 23 (([c0, c1, c2, c3, c4].drop 0).take (Try.prog.cellsOf 23)) at h0
      rw [show Try.prog.cellsOf 23 = 1 from by kernel_rfl] at h0
      obtain ⟨m0, e0, w0⟩ := okc_int (k := .u32) (by kernel_rfl) h0
      have h1 := hf _ (List.mem_iff_getElem.2 ⟨1, by decide +kernel, rfl⟩)
      change Okc Try.prog w n 23 (([c0, c1, c2, c3, c4].drop 1).take (Try.prog.cellsOf 23)) at h1
      rw [show Try.prog.cellsOf 23 = 1 from by kernel_rfl] at h1
      obtain ⟨m1, e1, w1⟩ := okc_int (k := .u32) (by kernel_rfl) h1
      have h2 := hf _ (List.mem_iff_getElem.2 ⟨2, by decide +kernel, rfl⟩)
      change Okc Try.prog w n 23 (([c0, c1, c2, c3, c4].drop 2).take (Try.prog.cellsOf 23)) at h2
      rw [show Try.prog.cellsOf 23 = 1 from by kernel_rfl] at h2
      obtain ⟨m2, e2, w2⟩ := okc_int (k := .u32) (by kernel_rfl) h2
      have h3 := hf _ (List.mem_iff_getElem.2 ⟨3, by decide +kernel, rfl⟩)
      change Okc Try.prog w n 23 (([c0, c1, c2, c3, c4].drop 3).take (Try.prog.cellsOf 23)) at h3
      rw [show Try.prog.cellsOf 23 = 1 from by kernel_rfl] at h3
      obtain ⟨m3, e3, w3⟩ := okc_int (k := .u32) (by kernel_rfl) h3
      have h4 := hf _ (List.mem_iff_getElem.2 ⟨4, by decide +kernel, rfl⟩)
      change Okc Try.prog w n 34 (([c0, c1, c2, c3, c4].drop 4).take (Try.prog.cellsOf 34)) at h4
      rw [show Try.prog.cellsOf 34 = 1 from by kernel_rfl] at h4
      obtain ⟨m4, e4⟩ := okc_slice Try.underlying34 h4
      refine ⟨⟨m0, m1, m2, m3, m4⟩, ?_, ⟨w0, w1, w2, w3⟩, ⟨_, by rw [← e4]; exact h4⟩⟩
      subst e0 e1 e2 e3 e4
      rfl
theorem open63 {w : World} {r : Reach} {b n : Nat} {v : Value} (hw : Value.okWide Try.prog w r b 63 v) (h : Okc Try.prog w n 63 v.cells.toList) : ∃ x : Pt, v = x.v ∧ x.ok ∧ (∃ m, Okc Try.prog w m 34 [x.text.v]) := by
  obtain ⟨cs, rfl, _⟩ := Go.WideShapes.okWide_struct Try.underlying63 hw
  obtain ⟨x, hx, hok⟩ := okc63 h
  exact ⟨x, by rw [Pt.v, ← hx]; rfl, hok⟩
/-! ### Stream: type 66 -/
structure Stream where
  l : Sl
  deriving DecidableEq
def Stream.cs (x : Stream) : List Value := [x.l.v]
def Stream.v (x : Stream) : Value := .agg x.cs.toArray
def Stream.ok (_ : Stream) : Prop := True
def Stream.zero : Stream := ⟨⟨none, 0, 0⟩⟩
theorem Stream.len (x : Stream) : x.cs.length = 1 := rfl
theorem zero66 (w : World) : (zeroValue 66).run Try.prog w = .ok Stream.zero.v w := by kernel_rfl
theorem inf66 : ∃ i, Try.prog.info? 66 = some i ∧ i.size = 1 := ⟨(Try.prog.info? 66).get (by kernel_rfl), by kernel_rfl, by kernel_rfl⟩
@[go_sem] theorem fa66x0 (g o : Nat) : QfieldAddr Try.prog 66 (.pointer (some ⟨g, o, none⟩)) 0 = some (.pointer (some ⟨g, o, none⟩)) := by kernel_rfl
@[go_sem high] theorem fb66x0 (g : Nat) : QfieldAddr Try.prog 66 (.pointer (some ⟨g, 0, none⟩)) 0 = some (.pointer (some ⟨g, 0, none⟩)) := by kernel_rfl
theorem one64 : one Try.prog 64 = true := by kernel_rfl
theorem Stream.f0 {x : Stream} {w : World} {g o : Nat} (h : CellsAt x.cs w g o) : Qload Try.prog 64 (.pointer (some ⟨g, o, none⟩)) w = some x.l.v := Qload_cell one64 (h 0 _ rfl)
theorem Stream.b0 {x : Stream} {w : World} {g : Nat} (h : CellsAt x.cs w g 0) : Qload Try.prog 64 (.pointer (some ⟨g, 0, none⟩)) w = some x.l.v := Qload_cell one64 (by have := h 0 _ rfl; rwa [Nat.zero_add] at this)
theorem Stream.all {x : Stream} {w : World} {g o : Nat} (h : CellsAt x.cs w g o) : Qload Try.prog 66 (.pointer (some ⟨g, o, none⟩)) w = some x.v := by
  obtain ⟨i, hi, hs⟩ := inf66
  exact Qload_cells Try.underlying66 hi (hs.trans x.len.symm) h
theorem Stream.box (x : Stream) (w : World) : Xbox Try.prog 66 x.v w = some (.pointer (some ⟨w.heap.size, 0, none⟩), w.alloc (.cells x.cs.toArray 66)) := nonrfl rfl
theorem Stream.new (x : Stream) (w : World) : CellsAt x.cs (w.alloc (.cells x.cs.toArray 66)) w.heap.size 0 := CellsAt.of (MapKept.heap_alloc w _).1
theorem Stream.one1 (x : Stream) : ∀ u ∈ x.v.cells.toList, u.oneCell' = true := by
  intro u hu
  have hu : u ∈ x.cs := by simpa [Stream.v, Value.cells] using hu
  exact List.all_eq_true.1 (show x.cs.all (fun u => u.oneCell') = true from rfl) u hu
theorem alloc66 (w : World) : Xalloc Try.prog 66 w = some (.pointer (some ⟨w.heap.size, 0, none⟩), w.alloc (.cells Stream.zero.cs.toArray 66)) := Xalloc_eq (zero66 w)
theorem store66 {x : Stream} {w : World} {g : Nat} {cur : Array Value} {te : TypeId} (hg : w.heap[g]? = some (.cells cur te (0, 0))) (hc : cur.size = 1) : Xstore Try.prog 66 (.pointer (some ⟨g, 0, none⟩)) x.v w = some (undef, w.setRow g x.cs.toArray) := by
  obtain ⟨i, hi, hs⟩ := inf66
  exact Xstore_var (v := x.v) hi (by rw [hs]; rfl) hg (by rw [hs]; exact hc) x.one1
theorem put66 (x z : Stream) (w : World) : Xstore Try.prog 66 (.pointer (some ⟨w.heap.size, 0, none⟩)) x.v (w.alloc (.cells z.cs.toArray 66)) = some (undef, (w.alloc (.cells z.cs.toArray 66)).setRow w.heap.size x.cs.toArray) := store66 (MapKept.heap_alloc w _).1 rfl
theorem okc66 {w : World} {n : Nat} {cs : List Value} (h : Okc Try.prog w n 66 cs) : ∃ x : Stream, cs = x.cs ∧ x.ok ∧ (∃ m, Okc Try.prog w m 64 [x.l.v]) := by
  cases n with
  | zero => exact h.elim
  | succ n =>
    unfold Okc at h
    rw [Try.underlying66] at h
    obtain ⟨hl, hf⟩ := h
    rw [show Try.prog.cellsOf 66 = 1 from by kernel_rfl] at hl
    match cs, hl, hf with
    | [c0], _, hf =>
      have h0 := hf _ (List.mem_iff_getElem.2 ⟨0, by decide +kernel, rfl⟩)
      change Okc Try.prog w n 64 (([c0].drop 0).take (Try.prog.cellsOf 64)) at h0
      rw [show Try.prog.cellsOf 64 = 1 from by kernel_rfl] at h0
      obtain ⟨m0, e0⟩ := okc_slice Try.underlying64 h0
      refine ⟨⟨m0⟩, ?_, trivial, ⟨_, by rw [← e0]; exact h0⟩⟩
      subst e0
      rfl
theorem open66 {w : World} {r : Reach} {b n : Nat} {v : Value} (hw : Value.okWide Try.prog w r b 66 v) (h : Okc Try.prog w n 66 v.cells.toList) : ∃ x : Stream, v = x.v ∧ x.ok ∧ (∃ m, Okc Try.prog w m 64 [x.l.v]) := by
  obtain ⟨cs, rfl, _⟩ := Go.WideShapes.okWide_struct Try.underlying66 hw
  obtain ⟨x, hx, hok⟩ := okc66 h
  exact ⟨x, by rw [Stream.v, ← hx]; rfl, hok⟩
/-! ### RPt: type 76 -/
structure RPt where
  start : Int
  was : Int
  text : Sl
  deriving DecidableEq
def RPt.cs (x : RPt) : List Value := [.int .u32 x.start] ++ [.int .i64 x.was] ++ [x.text.v]
def RPt.v (x : RPt) : Value := .agg x.cs.toArray
def RPt.ok (x : RPt) : Prop := (Lit.int .u32 x.start).wf = true ∧ (Lit.int .i64 x.was).wf = true
def RPt.zero : RPt := ⟨0, 0, ⟨none, 0, 0⟩⟩
theorem RPt.len (x : RPt) : x.cs.length = 3 := rfl
theorem zero76 (w : World) : (zeroValue 76).run Try.prog w = .ok RPt.zero.v w := by kernel_rfl
theorem inf76 : ∃ i, Try.prog.info? 76 = some i ∧ i.size = 3 := ⟨(Try.prog.info? 76).get (by kernel_rfl), by kernel_rfl, by kernel_rfl⟩
@[go_sem] theorem fa76x0 (g o : Nat) : QfieldAddr Try.prog 76 (.pointer (some ⟨g, o, none⟩)) 0 = some (.pointer (some ⟨g, o, none⟩)) := by kernel_rfl
@[go_sem high] theorem fb76x0 (g : Nat) : QfieldAddr Try.prog 76 (.pointer (some ⟨g, 0, none⟩)) 0 = some (.pointer (some ⟨g, 0, none⟩)) := by kernel_rfl
@[go_sem] theorem fa76x1 (g o : Nat) : QfieldAddr Try.prog 76 (.pointer (some ⟨g, o, none⟩)) 1 = some (.pointer (some ⟨g, o + 1, none⟩)) := by kernel_rfl
@[go_sem high] theorem fb76x1 (g : Nat) : QfieldAddr Try.prog 76 (.pointer (some ⟨g, 0, none⟩)) 1 = some (.pointer (some ⟨g, 1, none⟩)) := by kernel_rfl
@[go_sem] theorem fa76x2 (g o : Nat) : QfieldAddr Try.prog 76 (.pointer (some ⟨g, o, none⟩)) 2 = some (.pointer (some ⟨g, o + 2, none⟩)) := by kernel_rfl
@[go_sem high] theorem fb76x2 (g : Nat) : QfieldAddr Try.prog 76 (.pointer (some ⟨g, 0, none⟩)) 2 = some (.pointer (some ⟨g, 2, none⟩)) := by kernel_rfl
theorem RPt.f0 {x : RPt} {w : World} {g o : Nat} (h : CellsAt x.cs w g o) : Qload Try.prog 23 (.pointer (some ⟨g, o, none⟩)) w = some (.int .u32 x.start) := Qload_cell one23 (h 0 _ rfl)
theorem RPt.b0 {x : RPt} {w : World} {g : Nat} (h : CellsAt x.cs w g 0) : Qload Try.prog 23 (.pointer (some ⟨g, 0, none⟩)) w = some (.int .u32 x.start) := Qload_cell one23 (by have := h 0 _ rfl; rwa [Nat.zero_add] at this)
theorem RPt.f1 {x : RPt} {w : World} {g o : Nat} (h : CellsAt x.cs w g o) : Qload Try.prog 3 (.pointer (some ⟨g, o + 1, none⟩)) w = some (.int .i64 x.was) := Qload_cell one3 (h 1 _ rfl)
theorem RPt.b1 {x : RPt} {w : World} {g : Nat} (h : CellsAt x.cs w g 0) : Qload Try.prog 3 (.pointer (some ⟨g, 1, none⟩)) w = some (.int .i64 x.was) := Qload_cell one3 (by have := h 1 _ rfl; rwa [Nat.zero_add] at this)
theorem RPt.f2 {x : RPt} {w : World} {g o : Nat} (h : CellsAt x.cs w g o) : Qload Try.prog 34 (.pointer (some ⟨g, o + 2, none⟩)) w = some x.text.v := Qload_cell one34 (h 2 _ rfl)
theorem RPt.b2 {x : RPt} {w : World} {g : Nat} (h : CellsAt x.cs w g 0) : Qload Try.prog 34 (.pointer (some ⟨g, 2, none⟩)) w = some x.text.v := Qload_cell one34 (by have := h 2 _ rfl; rwa [Nat.zero_add] at this)
theorem RPt.all {x : RPt} {w : World} {g o : Nat} (h : CellsAt x.cs w g o) : Qload Try.prog 76 (.pointer (some ⟨g, o, none⟩)) w = some x.v := by
  obtain ⟨i, hi, hs⟩ := inf76
  exact Qload_cells Try.underlying76 hi (hs.trans x.len.symm) h
theorem RPt.box (x : RPt) (w : World) : Xbox Try.prog 76 x.v w = some (.pointer (some ⟨w.heap.size, 0, none⟩), w.alloc (.cells x.cs.toArray 76)) := nonrfl rfl
theorem RPt.new (x : RPt) (w : World) : CellsAt x.cs (w.alloc (.cells x.cs.toArray 76)) w.heap.size 0 := CellsAt.of (MapKept.heap_alloc w _).1
theorem RPt.one1 (x : RPt) : ∀ u ∈ x.v.cells.toList, u.oneCell' = true := by
  intro u hu
  have hu : u ∈ x.cs := by simpa [RPt.v, Value.cells] using hu
  exact List.all_eq_true.1 (show x.cs.all (fun u => u.oneCell') = true from rfl) u hu
theorem alloc76 (w : World) : Xalloc Try.prog 76 w = some (.pointer (some ⟨w.heap.size, 0, none⟩), w.alloc (.cells RPt.zero.cs.toArray 76)) := Xalloc_eq (zero76 w)
theorem store76 {x : RPt} {w : World} {g : Nat} {cur : Array Value} {te : TypeId} (hg : w.heap[g]? = some (.cells cur te (0, 0))) (hc : cur.size = 3) : Xstore Try.prog 76 (.pointer (some ⟨g, 0, none⟩)) x.v w = some (undef, w.setRow g x.cs.toArray) := by
  obtain ⟨i, hi, hs⟩ := inf76
  exact Xstore_var (v := x.v) hi (by rw [hs]; rfl) hg (by rw [hs]; exact hc) x.one1
theorem put76 (x z : RPt) (w : World) : Xstore Try.prog 76 (.pointer (some ⟨w.heap.size, 0, none⟩)) x.v (w.alloc (.cells z.cs.toArray 76)) = some (undef, (w.alloc (.cells z.cs.toArray 76)).setRow w.heap.size x.cs.toArray) := store76 (MapKept.heap_alloc w _).1 rfl
theorem okc76 {w : World} {n : Nat} {cs : List Value} (h : Okc Try.prog w n 76 cs) : ∃ x : RPt, cs = x.cs ∧ x.ok ∧ (∃ m, Okc Try.prog w m 34 [x.text.v]) := by
  cases n with
  | zero => exact h.elim
  | succ n =>
    unfold Okc at h
    rw [Try.underlying76] at h
    obtain ⟨hl, hf⟩ := h
    rw [show Try.prog.cellsOf 76 = 3 from by kernel_rfl] at hl
    match cs, hl, hf with
    | [c0, c1, c2], _, hf =>
      have h0 := hf _ (List.mem_iff_getElem.2 ⟨0, by decide +kernel, rfl⟩)
      change Okc Try.prog w n 23 (([c0, c1, c2].drop 0).take (Try.prog.cellsOf 23)) at h0
      rw [show Try.prog.cellsOf 23 = 1 from by kernel_rfl] at h0
      obtain ⟨m0, e0, w0⟩ := okc_int (k := .u32) (by kernel_rfl) h0
      have h1 := hf _ (List.mem_iff_getElem.2 ⟨1, by decide +kernel, rfl⟩)
      change Okc Try.prog w n 3 (([c0, c1, c2].drop 1).take (Try.prog.cellsOf 3)) at h1
      rw [show Try.prog.cellsOf 3 = 1 from by kernel_rfl] at h1
      obtain ⟨m1, e1, w1⟩ := okc_int (k := .i64) (by kernel_rfl) h1
      have h2 := hf _ (List.mem_iff_getElem.2 ⟨2, by decide +kernel, rfl⟩)
      change Okc Try.prog w n 34 (([c0, c1, c2].drop 2).take (Try.prog.cellsOf 34)) at h2
      rw [show Try.prog.cellsOf 34 = 1 from by kernel_rfl] at h2
      obtain ⟨m2, e2⟩ := okc_slice Try.underlying34 h2
      refine ⟨⟨m0, m1, m2⟩, ?_, ⟨w0, w1⟩, ⟨_, by rw [← e2]; exact h2⟩⟩
      subst e0 e1 e2
      rfl
theorem open76 {w : World} {r : Reach} {b n : Nat} {v : Value} (hw : Value.okWide Try.prog w r b 76 v) (h : Okc Try.prog w n 76 v.cells.toList) : ∃ x : RPt, v = x.v ∧ x.ok ∧ (∃ m, Okc Try.prog w m 34 [x.text.v]) := by
  obtain ⟨cs, rfl, _⟩ := Go.WideShapes.okWide_struct Try.underlying76 hw
  obtain ⟨x, hx, hok⟩ := okc76 h
  exact ⟨x, by rw [RPt.v, ← hx]; rfl, hok⟩
/-! ### RefStream: type 74 -/
structure RefStream where
  l : Sl
  deriving DecidableEq
def RefStream.cs (x : RefStream) : List Value := [x.l.v]
def RefStream.v (x : RefStream) : Value := .agg x.cs.toArray
def RefStream.ok (_ : RefStream) : Prop := True
def RefStream.zero : RefStream := ⟨⟨none, 0, 0⟩⟩
theorem RefStream.len (x : RefStream) : x.cs.length = 1 := rfl
theorem zero74 (w : World) : (zeroValue 74).run Try.prog w = .ok RefStream.zero.v w := by kernel_rfl
theorem inf74 : ∃ i, Try.prog.info? 74 = some i ∧ i.size = 1 := ⟨(Try.prog.info? 74).get (by kernel_rfl), by kernel_rfl, by kernel_rfl⟩
@[go_sem] theorem fa74x0 (g o : Nat) : QfieldAddr Try.prog 74 (.pointer (some ⟨g, o, none⟩)) 0 = some (.pointer (some ⟨g, o, none⟩)) := by kernel_rfl
@[go_sem high] theorem fb74x0 (g : Nat) : QfieldAddr Try.prog 74 (.pointer (some ⟨g, 0, none⟩)) 0 = some (.pointer (some ⟨g, 0, none⟩)) := by kernel_rfl
theorem one72 : one Try.prog 72 = true := by kernel_rfl
theorem RefStream.f0 {x : RefStream} {w : World} {g o : Nat} (h : CellsAt x.cs w g o) : Qload Try.prog 72 (.pointer (some ⟨g, o, none⟩)) w = some x.l.v := Qload_cell one72 (h 0 _ rfl)
theorem RefStream.b0 {x : RefStream} {w : World} {g : Nat} (h : CellsAt x.cs w g 0) : Qload Try.prog 72 (.pointer (some ⟨g, 0, none⟩)) w = some x.l.v := Qload_cell one72 (by have := h 0 _ rfl; rwa [Nat.zero_add] at this)
theorem RefStream.all {x : RefStream} {w : World} {g o : Nat} (h : CellsAt x.cs w g o) : Qload Try.prog 74 (.pointer (some ⟨g, o, none⟩)) w = some x.v := by
  obtain ⟨i, hi, hs⟩ := inf74
  exact Qload_cells Try.underlying74 hi (hs.trans x.len.symm) h
theorem RefStream.box (x : RefStream) (w : World) : Xbox Try.prog 74 x.v w = some (.pointer (some ⟨w.heap.size, 0, none⟩), w.alloc (.cells x.cs.toArray 74)) := nonrfl rfl
theorem RefStream.new (x : RefStream) (w : World) : CellsAt x.cs (w.alloc (.cells x.cs.toArray 74)) w.heap.size 0 := CellsAt.of (MapKept.heap_alloc w _).1
theorem RefStream.one1 (x : RefStream) : ∀ u ∈ x.v.cells.toList, u.oneCell' = true := by
  intro u hu
  have hu : u ∈ x.cs := by simpa [RefStream.v, Value.cells] using hu
  exact List.all_eq_true.1 (show x.cs.all (fun u => u.oneCell') = true from rfl) u hu
theorem alloc74 (w : World) : Xalloc Try.prog 74 w = some (.pointer (some ⟨w.heap.size, 0, none⟩), w.alloc (.cells RefStream.zero.cs.toArray 74)) := Xalloc_eq (zero74 w)
theorem store74 {x : RefStream} {w : World} {g : Nat} {cur : Array Value} {te : TypeId} (hg : w.heap[g]? = some (.cells cur te (0, 0))) (hc : cur.size = 1) : Xstore Try.prog 74 (.pointer (some ⟨g, 0, none⟩)) x.v w = some (undef, w.setRow g x.cs.toArray) := by
  obtain ⟨i, hi, hs⟩ := inf74
  exact Xstore_var (v := x.v) hi (by rw [hs]; rfl) hg (by rw [hs]; exact hc) x.one1
theorem put74 (x z : RefStream) (w : World) : Xstore Try.prog 74 (.pointer (some ⟨w.heap.size, 0, none⟩)) x.v (w.alloc (.cells z.cs.toArray 74)) = some (undef, (w.alloc (.cells z.cs.toArray 74)).setRow w.heap.size x.cs.toArray) := store74 (MapKept.heap_alloc w _).1 rfl
theorem okc74 {w : World} {n : Nat} {cs : List Value} (h : Okc Try.prog w n 74 cs) : ∃ x : RefStream, cs = x.cs ∧ x.ok ∧ (∃ m, Okc Try.prog w m 72 [x.l.v]) := by
  cases n with
  | zero => exact h.elim
  | succ n =>
    unfold Okc at h
    rw [Try.underlying74] at h
    obtain ⟨hl, hf⟩ := h
    rw [show Try.prog.cellsOf 74 = 1 from by kernel_rfl] at hl
    match cs, hl, hf with
    | [c0], _, hf =>
      have h0 := hf _ (List.mem_iff_getElem.2 ⟨0, by decide +kernel, rfl⟩)
      change Okc Try.prog w n 72 (([c0].drop 0).take (Try.prog.cellsOf 72)) at h0
      rw [show Try.prog.cellsOf 72 = 1 from by kernel_rfl] at h0
      obtain ⟨m0, e0⟩ := okc_slice Try.underlying72 h0
      refine ⟨⟨m0⟩, ?_, trivial, ⟨_, by rw [← e0]; exact h0⟩⟩
      subst e0
      rfl
theorem open74 {w : World} {r : Reach} {b n : Nat} {v : Value} (hw : Value.okWide Try.prog w r b 74 v) (h : Okc Try.prog w n 74 v.cells.toList) : ∃ x : RefStream, v = x.v ∧ x.ok ∧ (∃ m, Okc Try.prog w m 72 [x.l.v]) := by
  obtain ⟨cs, rfl, _⟩ := Go.WideShapes.okWide_struct Try.underlying74 hw
  obtain ⟨x, hx, hok⟩ := okc74 h
  exact ⟨x, by rw [RefStream.v, ← hx]; rfl, hok⟩
end Go.Proofs.Ytfakpdegiobpaaa
