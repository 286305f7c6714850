/- Structs of a stream, as Lean structures. -/
import Derived.Test.YtphokckbcmiddaaDoorMFtS
import Derived.Test.YtphokckbcmiddaaDoorMFs
namespace Go.Proofs.YtphokckbcmiddaaDoor
open Go Go.Ev
open Go.Proofs
/-! ### Pt: type 85 -/
structure Pt where
  start : Int
  end_ : Int
  ahead : Int
  behind : Int
  text : Sl
  deriving DecidableEq
def Pt.cs (x : Pt) : List Value := [.int .u32 x.start] ++ [.int .u32 x.end_] ++ [.int .u32 x.ahead] ++ [.int .u32 x.behind] ++ [x.text.v]
def Pt.v (x : Pt) : Value := .agg x.cs.toArray
def Pt.ok (x : Pt) : Prop := (Lit.int .u32 x.start).wf = true ∧ (Lit.int .u32 x.end_).wf = true ∧ (Lit.int .u32 x.ahead).wf = true ∧ (Lit.int .u32 x.behind).wf = true
def Pt.zero : Pt := ⟨0, 0, 0, 0, ⟨none, 0, 0⟩⟩
set_option maxRecDepth 100000 in
theorem Pt.len (x : Pt) : x.cs.length = 5 := rfl
set_option maxRecDepth 100000 in
theorem zero85 (w : World) : (zeroValue 85).run Tryd.prog w = .ok Pt.zero.v w := by kernel_rfl
set_option maxRecDepth 100000 in
theorem inf85 : ∃ i, Tryd.prog.info? 85 = some i ∧ i.size = 5 := ⟨(Tryd.prog.info? 85).get (by kernel_rfl), by kernel_rfl, by kernel_rfl⟩
@[go_sem] theorem fa85x0 (g o : Nat) : QfieldAddr Tryd.prog 85 (.pointer (some ⟨g, o, none⟩)) 0 = some (.pointer (some ⟨g, o, none⟩)) := by kernel_rfl
@[go_sem high] theorem fb85x0 (g : Nat) : QfieldAddr Tryd.prog 85 (.pointer (some ⟨g, 0, none⟩)) 0 = some (.pointer (some ⟨g, 0, none⟩)) := by kernel_rfl
@[go_sem] theorem fa85x1 (g o : Nat) : QfieldAddr Tryd.prog 85 (.pointer (some ⟨g, o, none⟩)) 1 = some (.pointer (some ⟨g, o + 1, none⟩)) := by kernel_rfl
@[go_sem high] theorem fb85x1 (g : Nat) : QfieldAddr Tryd.prog 85 (.pointer (some ⟨g, 0, none⟩)) 1 = some (.pointer (some ⟨g, 1, none⟩)) := by kernel_rfl
@[go_sem] theorem fa85x2 (g o : Nat) : QfieldAddr Tryd.prog 85 (.pointer (some ⟨g, o, none⟩)) 2 = some (.pointer (some ⟨g, o + 2, none⟩)) := by kernel_rfl
@[go_sem high] theorem fb85x2 (g : Nat) : QfieldAddr Tryd.prog 85 (.pointer (some ⟨g, 0, none⟩)) 2 = some (.pointer (some ⟨g, 2, none⟩)) := by kernel_rfl
@[go_sem] theorem fa85x3 (g o : Nat) : QfieldAddr Tryd.prog 85 (.pointer (some ⟨g, o, none⟩)) 3 = some (.pointer (some ⟨g, o + 3, none⟩)) := by kernel_rfl
@[go_sem high] theorem fb85x3 (g : Nat) : QfieldAddr Tryd.prog 85 (.pointer (some ⟨g, 0, none⟩)) 3 = some (.pointer (some ⟨g, 3, none⟩)) := by kernel_rfl
@[go_sem] theorem fa85x4 (g o : Nat) : QfieldAddr Tryd.prog 85 (.pointer (some ⟨g, o, none⟩)) 4 = some (.pointer (some ⟨g, o + 4, none⟩)) := by kernel_rfl
@[go_sem high] theorem fb85x4 (g : Nat) : QfieldAddr Tryd.prog 85 (.pointer (some ⟨g, 0, none⟩)) 4 = some (.pointer (some ⟨g, 4, none⟩)) := by kernel_rfl
set_option maxRecDepth 100000 in
theorem Pt.f0 {x : Pt} {w : World} {g o : Nat} (h : CellsAt x.cs w g o) : Qload Tryd.prog 24 (.pointer (some ⟨g, o, none⟩)) w = some (.int .u32 x.start) := Qload_cell one24 (h 0 _ rfl)
set_option maxRecDepth 100000 in
theorem Pt.b0 {x : Pt} {w : World} {g : Nat} (h : CellsAt x.cs w g 0) : Qload Tryd.prog 24 (.pointer (some ⟨g, 0, none⟩)) w = some (.int .u32 x.start) := Qload_cell one24 (by have := h 0 _ rfl; rwa [Nat.zero_add] at this)
set_option maxRecDepth 100000 in
theorem Pt.f1 {x : Pt} {w : World} {g o : Nat} (h : CellsAt x.cs w g o) : Qload Tryd.prog 24 (.pointer (some ⟨g, o + 1, none⟩)) w = some (.int .u32 x.end_) := Qload_cell one24 (h 1 _ rfl)
set_option maxRecDepth 100000 in
theorem Pt.b1 {x : Pt} {w : World} {g : Nat} (h : CellsAt x.cs w g 0) : Qload Tryd.prog 24 (.pointer (some ⟨g, 1, none⟩)) w = some (.int .u32 x.end_) := Qload_cell one24 (by have := h 1 _ rfl; rwa [Nat.zero_add] at this)
set_option maxRecDepth 100000 in
theorem Pt.f2 {x : Pt} {w : World} {g o : Nat} (h : CellsAt x.cs w g o) : Qload Tryd.prog 24 (.pointer (some ⟨g, o + 2, none⟩)) w = some (.int .u32 x.ahead) := Qload_cell one24 (h 2 _ rfl)
set_option maxRecDepth 100000 in
theorem Pt.b2 {x : Pt} {w : World} {g : Nat} (h : CellsAt x.cs w g 0) : Qload Tryd.prog 24 (.pointer (some ⟨g, 2, none⟩)) w = some (.int .u32 x.ahead) := Qload_cell one24 (by have := h 2 _ rfl; rwa [Nat.zero_add] at this)
set_option maxRecDepth 100000 in
theorem Pt.f3 {x : Pt} {w : World} {g o : Nat} (h : CellsAt x.cs w g o) : Qload Tryd.prog 24 (.pointer (some ⟨g, o + 3, none⟩)) w = some (.int .u32 x.behind) := Qload_cell one24 (h 3 _ rfl)
set_option maxRecDepth 100000 in
theorem Pt.b3 {x : Pt} {w : World} {g : Nat} (h : CellsAt x.cs w g 0) : Qload Tryd.prog 24 (.pointer (some ⟨g, 3, none⟩)) w = some (.int .u32 x.behind) := Qload_cell one24 (by have := h 3 _ rfl; rwa [Nat.zero_add] at this)
set_option maxRecDepth 100000 in
theorem Pt.f4 {x : Pt} {w : World} {g o : Nat} (h : CellsAt x.cs w g o) : Qload Tryd.prog 22 (.pointer (some ⟨g, o + 4, none⟩)) w = some x.text.v := Qload_cell one22 (h 4 _ rfl)
set_option maxRecDepth 100000 in
theorem Pt.b4 {x : Pt} {w : World} {g : Nat} (h : CellsAt x.cs w g 0) : Qload Tryd.prog 22 (.pointer (some ⟨g, 4, none⟩)) w = some x.text.v := Qload_cell one22 (by have := h 4 _ rfl; rwa [Nat.zero_add] at this)
set_option maxRecDepth 100000 in
theorem Pt.all {x : Pt} {w : World} {g o : Nat} (h : CellsAt x.cs w g o) : Qload Tryd.prog 85 (.pointer (some ⟨g, o, none⟩)) w = some x.v := by
  obtain ⟨i, hi, hs⟩ := inf85
  exact Qload_cells Tryd.underlying85 hi (hs.trans x.len.symm) h
set_option maxRecDepth 100000 in
theorem Pt.box (x : Pt) (w : World) : Xbox Tryd.prog 85 x.v w = some (.pointer (some ⟨w.heap.size, 0, none⟩), w.alloc (.cells x.cs.toArray 85)) := nonrfl rfl
set_option maxRecDepth 100000 in
theorem Pt.new (x : Pt) (w : World) : CellsAt x.cs (w.alloc (.cells x.cs.toArray 85)) w.heap.size 0 := CellsAt.of (MapKept.heap_alloc w _).1
set_option maxRecDepth 100000 in
theorem Pt.one1 (x : Pt) : ∀ u ∈ x.v.cells.toList, u.oneCell' = true := by
  intro u hu
  have hu : u ∈ x.cs := by simpa [Pt.v, Value.cells] using hu
  exact List.all_eq_true.1 (show x.cs.all (fun u => u.oneCell') = true from rfl) u hu
set_option maxRecDepth 100000 in
theorem alloc85 (w : World) : Xalloc Tryd.prog 85 w = some (.pointer (some ⟨w.heap.size, 0, none⟩), w.alloc (.cells Pt.zero.cs.toArray 85)) := Xalloc_eq (zero85 w)
set_option maxRecDepth 100000 in
theorem store85 {x : Pt} {w : World} {g : Nat} {cur : Array Value} {te : TypeId} (hg : w.heap[g]? = some (.cells cur te (0, 0))) (hc : cur.size = 5) : Xstore Tryd.prog 85 (.pointer (some ⟨g, 0, none⟩)) x.v w = some (undef, w.setRow g x.cs.toArray) := by
  obtain ⟨i, hi, hs⟩ := inf85
  exact Xstore_var (v := x.v) hi (by rw [hs]; rfl) hg (by rw [hs]; exact hc) x.one1
set_option maxRecDepth 100000 in
theorem put85 (x z : Pt) (w : World) : Xstore Tryd.prog 85 (.pointer (some ⟨w.heap.size, 0, none⟩)) x.v (w.alloc (.cells z.cs.toArray 85)) = some (undef, (w.alloc (.cells z.cs.toArray 85)).setRow w.heap.size x.cs.toArray) := store85 (MapKept.heap_alloc w _).1 rfl
set_option maxRecDepth 100000 in
theorem okc85 {w : World} {n : Nat} {cs : List Value} (h : Okc Tryd.prog w n 85 cs) : ∃ x : Pt, cs = x.cs ∧ x.ok ∧ (∃ m, Okc Tryd.prog w m 22 [x.text.v]) := by
  cases n with
  | zero => exact h.elim
  | succ n =>
    unfold Okc at h
    rw [Tryd.underlying85] at h
    obtain ⟨hl, hf⟩ := h
    rw [show Tryd.prog.cellsOf 85 = 5 from by kernel_rfl] at hl
    match cs, hl, hf with
    | [c0, c1, c2, c3, c4], _, hf =>
      have h0 := hf _ (List.mem_iff_getElem.2 ⟨0, by decide +kernel, rfl⟩)
      change Okc Tryd.prog w n 24 (([c0, c1, c2, c3, c4].drop 0).take (Tryd.prog.cellsOf 24)) at h0
      rw [show Tryd.prog.cellsOf 24 = 1 from by kernel_rfl] at h0
      obtain ⟨m0, e0, w0⟩ := okc_int (k := .u32) (by kernel_rfl) h0
      have h1 := hf _ (List.mem_iff_getElem.2 ⟨1, by decide +kernel, rfl⟩)
      change Okc Tryd.prog w n 24 (([c0, c1, c2, c3, c4].drop 1).take (Tryd.prog.cellsOf 24)) at h1
      rw [show Tryd.prog.cellsOf 24 = 1 from by kernel_rfl] at h1
      obtain ⟨m1, e1, w1⟩ := okc_int (k := .u32) (by kernel_rfl) h1
      have h2 := hf _ (List.mem_iff_getElem.2 ⟨2, by decide +kernel, rfl⟩)
      change Okc Tryd.prog w n 24 (([c0, c1, c2, c3, c4].drop 2).take (Tryd.prog.cellsOf 24)) at h2
      rw [show Tryd.prog.cellsOf 24 = 1 from by kernel_rfl] at h2
      obtain ⟨m2, e2, w2⟩ := okc_int (k := .u32) (by kernel_rfl) h2
      have h3 := hf _ (List.mem_iff_getElem.2 ⟨3, by decide +kernel, rfl⟩)
      change Okc Tryd.prog w n 24 (([c0, c1, c2, c3, c4].drop 3).take (Tryd.prog.cellsOf 24)) at h3
      rw [show Tryd.prog.cellsOf 24 = 1 from by kernel_rfl] at h3
      obtain ⟨m3, e3, w3⟩ := okc_int (k := .u32) (by kernel_rfl) h3
      have h4 := hf _ (List.mem_iff_getElem.2 ⟨4, by decide +kernel, rfl⟩)
      change Okc Tryd.prog w n 22 (([c0, c1, c2, c3, c4].drop 4).take (Tryd.prog.cellsOf 22)) at h4
      rw [show Tryd.prog.cellsOf 22 = 1 from by kernel_rfl] at h4
      obtain ⟨m4, e4⟩ := okc_slice Tryd.underlying22 h4
      refine ⟨⟨m0, m1, m2, m3, m4⟩, ?_, ⟨w0, w1, w2, w3⟩, ⟨_, by rw [← e4]; exact h4⟩⟩
      subst e0 e1 e2 e3 e4
      rfl
set_option maxRecDepth 100000 in
theorem open85 {w : World} {r : Reach} {b n : Nat} {v : Value} (hw : Value.okWide Tryd.prog w r b 85 v) (h : Okc Tryd.prog w n 85 v.cells.toList) : ∃ x : Pt, v = x.v ∧ x.ok ∧ (∃ m, Okc Tryd.prog w m 22 [x.text.v]) := by
  obtain ⟨cs, rfl, _⟩ := Go.WideShapes.okWide_struct Tryd.underlying85 hw
  obtain ⟨x, hx, hok⟩ := okc85 h
  exact ⟨x, by rw [Pt.v, ← hx]; rfl, hok⟩
/-! ### Stream: type 82 -/
structure Stream where
  l : Sl
  deriving DecidableEq
def Stream.cs (x : Stream) : List Value := [x.l.v]
def Stream.v (x : Stream) : Value := .agg x.cs.toArray
def Stream.ok (_ : Stream) : Prop := True
def Stream.zero : Stream := ⟨⟨none, 0, 0⟩⟩
set_option maxRecDepth 100000 in
theorem Stream.len (x : Stream) : x.cs.length = 1 := rfl
set_option maxRecDepth 100000 in
theorem zero82 (w : World) : (zeroValue 82).run Tryd.prog w = .ok Stream.zero.v w := by kernel_rfl
set_option maxRecDepth 100000 in
theorem inf82 : ∃ i, Tryd.prog.info? 82 = some i ∧ i.size = 1 := ⟨(Tryd.prog.info? 82).get (by kernel_rfl), by kernel_rfl, by kernel_rfl⟩
@[go_sem] theorem fa82x0 (g o : Nat) : QfieldAddr Tryd.prog 82 (.pointer (some ⟨g, o, none⟩)) 0 = some (.pointer (some ⟨g, o, none⟩)) := by kernel_rfl
@[go_sem high] theorem fb82x0 (g : Nat) : QfieldAddr Tryd.prog 82 (.pointer (some ⟨g, 0, none⟩)) 0 = some (.pointer (some ⟨g, 0, none⟩)) := by kernel_rfl
set_option maxRecDepth 100000 in
theorem one80 : one Tryd.prog 80 = true := by kernel_rfl
set_option maxRecDepth 100000 in
theorem Stream.f0 {x : Stream} {w : World} {g o : Nat} (h : CellsAt x.cs w g o) : Qload Tryd.prog 80 (.pointer (some ⟨g, o, none⟩)) w = some x.l.v := Qload_cell one80 (h 0 _ rfl)
set_option maxRecDepth 100000 in
theorem Stream.b0 {x : Stream} {w : World} {g : Nat} (h : CellsAt x.cs w g 0) : Qload Tryd.prog 80 (.pointer (some ⟨g, 0, none⟩)) w = some x.l.v := Qload_cell one80 (by have := h 0 _ rfl; rwa [Nat.zero_add] at this)
set_option maxRecDepth 100000 in
theorem Stream.all {x : Stream} {w : World} {g o : Nat} (h : CellsAt x.cs w g o) : Qload Tryd.prog 82 (.pointer (some ⟨g, o, none⟩)) w = some x.v := by
  obtain ⟨i, hi, hs⟩ := inf82
  exact Qload_cells Tryd.underlying82 hi (hs.trans x.len.symm) h
set_option maxRecDepth 100000 in
theorem Stream.box (x : Stream) (w : World) : Xbox Tryd.prog 82 x.v w = some (.pointer (some ⟨w.heap.size, 0, none⟩), w.alloc (.cells x.cs.toArray 82)) := nonrfl rfl
set_option maxRecDepth 100000 in
theorem Stream.new (x : Stream) (w : World) : CellsAt x.cs (w.alloc (.cells x.cs.toArray 82)) w.heap.size 0 := CellsAt.of (MapKept.heap_alloc w _).1
set_option maxRecDepth 100000 in
theorem Stream.one1 (x : Stream) : ∀ u ∈ x.v.cells.toList, u.oneCell' = true := by
  intro u hu
  have hu : u ∈ x.cs := by simpa [Stream.v, Value.cells] using hu
  exact List.all_eq_true.1 (show x.cs.all (fun u => u.oneCell') = true from rfl) u hu
set_option maxRecDepth 100000 in
theorem alloc82 (w : World) : Xalloc Tryd.prog 82 w = some (.pointer (some ⟨w.heap.size, 0, none⟩), w.alloc (.cells Stream.zero.cs.toArray 82)) := Xalloc_eq (zero82 w)
set_option maxRecDepth 100000 in
theorem store82 {x : Stream} {w : World} {g : Nat} {cur : Array Value} {te : TypeId} (hg : w.heap[g]? = some (.cells cur te (0, 0))) (hc : cur.size = 1) : Xstore Tryd.prog 82 (.pointer (some ⟨g, 0, none⟩)) x.v w = some (undef, w.setRow g x.cs.toArray) := by
  obtain ⟨i, hi, hs⟩ := inf82
  exact Xstore_var (v := x.v) hi (by rw [hs]; rfl) hg (by rw [hs]; exact hc) x.one1
set_option maxRecDepth 100000 in
theorem put82 (x z : Stream) (w : World) : Xstore Tryd.prog 82 (.pointer (some ⟨w.heap.size, 0, none⟩)) x.v (w.alloc (.cells z.cs.toArray 82)) = some (undef, (w.alloc (.cells z.cs.toArray 82)).setRow w.heap.size x.cs.toArray) := store82 (MapKept.heap_alloc w _).1 rfl
set_option maxRecDepth 100000 in
theorem okc82 {w : World} {n : Nat} {cs : List Value} (h : Okc Tryd.prog w n 82 cs) : ∃ x : Stream, cs = x.cs ∧ x.ok ∧ (∃ m, Okc Tryd.prog w m 80 [x.l.v]) := by
  cases n with
  | zero => exact h.elim
  | succ n =>
    unfold Okc at h
    rw [Tryd.underlying82] at h
    obtain ⟨hl, hf⟩ := h
    rw [show Tryd.prog.cellsOf 82 = 1 from by kernel_rfl] at hl
    match cs, hl, hf with
    | [c0], _, hf =>
      have h0 := hf _ (List.mem_iff_getElem.2 ⟨0, by decide +kernel, rfl⟩)
      change Okc Tryd.prog w n 80 (([c0].drop 0).take (Tryd.prog.cellsOf 80)) at h0
      rw [show Tryd.prog.cellsOf 80 = 1 from by kernel_rfl] at h0
      obtain ⟨m0, e0⟩ := okc_slice Tryd.underlying80 h0
      refine ⟨⟨m0⟩, ?_, trivial, ⟨_, by rw [← e0]; exact h0⟩⟩
      subst e0
      rfl
set_option maxRecDepth 100000 in
theorem open82 {w : World} {r : Reach} {b n : Nat} {v : Value} (hw : Value.okWide Tryd.prog w r b 82 v) (h : Okc Tryd.prog w n 82 v.cells.toList) : ∃ x : Stream, v = x.v ∧ x.ok ∧ (∃ m, Okc Tryd.prog w m 80 [x.l.v]) := by
  obtain ⟨cs, rfl, _⟩ := Go.WideShapes.okWide_struct Tryd.underlying82 hw
  obtain ⟨x, hx, hok⟩ := okc82 h
  exact ⟨x, by rw [Stream.v, ← hx]; rfl, hok⟩
end Go.Proofs.YtphokckbcmiddaaDoor
