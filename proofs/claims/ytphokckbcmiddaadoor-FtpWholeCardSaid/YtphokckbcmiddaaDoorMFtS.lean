/- Structs of the package, as Lean structures. -/
import Derived.Test.YtphokckbcmiddaaDoorMFb
import Derived.Test.YtphokckbcmiddaaDoorMFn
/- Structs of the package, as Lean structures. -/
namespace Go.Proofs.YtphokckbcmiddaaDoor
open Go Go.Ev
open Go.Proofs
/-! ### Rng: type 155 -/
structure Rng where
  lo : Int
  hi : Int
  deriving DecidableEq
def Rng.cs (x : Rng) : List Value := [.int .u8 x.lo] ++ [.int .u8 x.hi]
def Rng.v (x : Rng) : Value := .agg x.cs.toArray
def Rng.ok (x : Rng) : Prop := (Lit.int .u8 x.lo).wf = true ∧ (Lit.int .u8 x.hi).wf = true
def Rng.zero : Rng := ⟨0, 0⟩
theorem Rng.len (x : Rng) : x.cs.length = 2 := rfl
theorem zero155 (w : World) : (zeroValue 155).run Tryd.prog w = .ok Rng.zero.v w := by kernel_rfl
theorem inf155 : ∃ i, Tryd.prog.info? 155 = some i ∧ i.size = 2 := ⟨(Tryd.prog.info? 155).get (by kernel_rfl), by kernel_rfl, by kernel_rfl⟩
@[go_sem] theorem fa155x0 (g o : Nat) : QfieldAddr Tryd.prog 155 (.pointer (some ⟨g, o, none⟩)) 0 = some (.pointer (some ⟨g, o, none⟩)) := by kernel_rfl
@[go_sem high] theorem fb155x0 (g : Nat) : QfieldAddr Tryd.prog 155 (.pointer (some ⟨g, 0, none⟩)) 0 = some (.pointer (some ⟨g, 0, none⟩)) := by kernel_rfl
theorem one5 : one Tryd.prog 5 = true := by kernel_rfl
@[go_sem] theorem fa155x1 (g o : Nat) : QfieldAddr Tryd.prog 155 (.pointer (some ⟨g, o, none⟩)) 1 = some (.pointer (some ⟨g, o + 1, none⟩)) := by kernel_rfl
@[go_sem high] theorem fb155x1 (g : Nat) : QfieldAddr Tryd.prog 155 (.pointer (some ⟨g, 0, none⟩)) 1 = some (.pointer (some ⟨g, 1, none⟩)) := by kernel_rfl
theorem Rng.f0 {x : Rng} {w : World} {g o : Nat} (h : CellsAt x.cs w g o) : Qload Tryd.prog 5 (.pointer (some ⟨g, o, none⟩)) w = some (.int .u8 x.lo) := Qload_cell one5 (h 0 _ rfl)
theorem Rng.b0 {x : Rng} {w : World} {g : Nat} (h : CellsAt x.cs w g 0) : Qload Tryd.prog 5 (.pointer (some ⟨g, 0, none⟩)) w = some (.int .u8 x.lo) := Qload_cell one5 (by have := h 0 _ rfl; rwa [Nat.zero_add] at this)
theorem Rng.f1 {x : Rng} {w : World} {g o : Nat} (h : CellsAt x.cs w g o) : Qload Tryd.prog 5 (.pointer (some ⟨g, o + 1, none⟩)) w = some (.int .u8 x.hi) := Qload_cell one5 (h 1 _ rfl)
theorem Rng.b1 {x : Rng} {w : World} {g : Nat} (h : CellsAt x.cs w g 0) : Qload Tryd.prog 5 (.pointer (some ⟨g, 1, none⟩)) w = some (.int .u8 x.hi) := Qload_cell one5 (by have := h 1 _ rfl; rwa [Nat.zero_add] at this)
theorem Rng.all {x : Rng} {w : World} {g o : Nat} (h : CellsAt x.cs w g o) : Qload Tryd.prog 155 (.pointer (some ⟨g, o, none⟩)) w = some x.v := by
  obtain ⟨i, hi, hs⟩ := inf155
  exact Qload_cells Tryd.underlying155 hi (hs.trans x.len.symm) h
theorem Rng.box (x : Rng) (w : World) : Xbox Tryd.prog 155 x.v w = some (.pointer (some ⟨w.heap.size, 0, none⟩), w.alloc (.cells x.cs.toArray 155)) := nonrfl rfl
theorem Rng.new (x : Rng) (w : World) : CellsAt x.cs (w.alloc (.cells x.cs.toArray 155)) w.heap.size 0 := CellsAt.of (MapKept.heap_alloc w _).1
theorem Rng.one1 (x : Rng) : ∀ u ∈ x.v.cells.toList, u.oneCell' = true := by
  intro u hu
  have hu : u ∈ x.cs := by simpa [Rng.v, Value.cells] using hu
  exact List.all_eq_true.1 (show x.cs.all (fun u => u.oneCell') = true from rfl) u hu
theorem alloc155 (w : World) : Xalloc Tryd.prog 155 w = some (.pointer (some ⟨w.heap.size, 0, none⟩), w.alloc (.cells Rng.zero.cs.toArray 155)) := Xalloc_eq (zero155 w)
set_option maxRecDepth 100000 in
theorem store155 {x : Rng} {w : World} {g : Nat} {cur : Array Value} {te : TypeId} (hg : w.heap[g]? = some (.cells cur te (0, 0))) (hc : cur.size = 2) : Xstore Tryd.prog 155 (.pointer (some ⟨g, 0, none⟩)) x.v w = some (undef, w.setRow g x.cs.toArray) := by
  obtain ⟨i, hi, hs⟩ := inf155
  exact Xstore_var (v := x.v) hi (by rw [hs]; rfl) hg (by rw [hs]; exact hc) x.one1
set_option maxRecDepth 100000 in
theorem put155 (x z : Rng) (w : World) : Xstore Tryd.prog 155 (.pointer (some ⟨w.heap.size, 0, none⟩)) x.v (w.alloc (.cells z.cs.toArray 155)) = some (undef, (w.alloc (.cells z.cs.toArray 155)).setRow w.heap.size x.cs.toArray) := store155 (MapKept.heap_alloc w _).1 rfl
set_option maxRecDepth 100000 in
theorem okc155 {w : World} {n : Nat} {cs : List Value} (h : Okc Tryd.prog w n 155 cs) : ∃ x : Rng, cs = x.cs ∧ x.ok := by
  cases n with
  | zero => exact h.elim
  | succ n =>
    unfold Okc at h
    rw [Tryd.underlying155] at h
    obtain ⟨hl, hf⟩ := h
    rw [show Tryd.prog.cellsOf 155 = 2 from by kernel_rfl] at hl
    match cs, hl, hf with
    | [c0, c1], _, hf =>
      have h0 := hf _ (List.mem_iff_getElem.2 ⟨0, by decide +kernel, rfl⟩)
      change Okc Tryd.prog w n 5 (([c0, c1].drop 0).take (Tryd.prog.cellsOf 5)) at h0
      rw [show Tryd.prog.cellsOf 5 = 1 from by kernel_rfl] at h0
      obtain ⟨m0, e0, w0⟩ := okc_int (k := .u8) (by kernel_rfl) h0
      have h1 := hf _ (List.mem_iff_getElem.2 ⟨1, by decide +kernel, rfl⟩)
      change Okc Tryd.prog w n 5 (([c0, c1].drop 1).take (Tryd.prog.cellsOf 5)) at h1
      rw [show Tryd.prog.cellsOf 5 = 1 from by kernel_rfl] at h1
      obtain ⟨m1, e1, w1⟩ := okc_int (k := .u8) (by kernel_rfl) h1
      refine ⟨⟨m0, m1⟩, ?_, ⟨w0, w1⟩⟩
      subst e0 e1
      rfl
set_option maxRecDepth 100000 in
theorem open155 {w : World} {r : Reach} {b n : Nat} {v : Value} (hw : Value.okWide Tryd.prog w r b 155 v) (h : Okc Tryd.prog w n 155 v.cells.toList) : ∃ x : Rng, v = x.v ∧ x.ok := by
  obtain ⟨cs, rfl, _⟩ := Go.WideShapes.okWide_struct Tryd.underlying155 hw
  obtain ⟨x, hx, hok⟩ := okc155 h
  exact ⟨x, by rw [Rng.v, ← hx]; rfl, hok⟩
set_option maxRecDepth 100000 in
theorem eqv155 (x y : Rng) : eqV Tryd.prog 155 x.v y.v = (match (x.lo == y.lo) with | true => (match (x.hi == y.hi) with | true => (some true) | false => some false) | false => some false) := by kernel_rfl
set_option maxRecDepth 100000 in
theorem eqq155 (x y : Rng) : eqV Tryd.prog 155 x.v y.v = some (decide (x = y)) := by
  rw [eqv155]
  obtain ⟨a0, a1⟩ := x
  obtain ⟨b0, b1⟩ := y
  simp only [Rng.mk.injEq]
  cases h0 : (a0 == b0)
  · have : ¬ a0 = b0 := by simpa using h0
    simp [this]
  have e0 : a0 = b0 := by simpa using h0
  cases h1 : (a1 == b1)
  · have : ¬ a1 = b1 := by simpa using h1
    simp [this]
  have e1 : a1 = b1 := by simpa using h1
  simp [e0, e1]
theorem Rng.eql (x y : Rng) : Qbin Tryd.prog .eql 155 x.v y.v = some (.bool (decide (x = y))) := by
  show (eqV Tryd.prog 155 x.v y.v).map Value.bool = _
  rw [eqq155]; rfl
theorem Rng.neq (x y : Rng) : Qbin Tryd.prog .neq 155 x.v y.v = some (.bool (!decide (x = y))) := by
  show (eqV Tryd.prog 155 x.v y.v).map (fun b => Value.bool !b) = _
  rw [eqq155]; rfl
/-! ### Fnd: type 27 -/
structure Fnd where
  kind : Int
  start : Int
  end_ : Int
  addr : Int
  port : Int
  deriving DecidableEq
def Fnd.cs (x : Fnd) : List Value := [.int .i64 x.kind] ++ [.int .i64 x.start] ++ [.int .i64 x.end_] ++ [.int .u32 x.addr] ++ [.int .u16 x.port]
def Fnd.v (x : Fnd) : Value := .agg x.cs.toArray
def Fnd.ok (x : Fnd) : Prop := (Lit.int .i64 x.kind).wf = true ∧ (Lit.int .i64 x.start).wf = true ∧ (Lit.int .i64 x.end_).wf = true ∧ (Lit.int .u32 x.addr).wf = true ∧ (Lit.int .u16 x.port).wf = true
def Fnd.zero : Fnd := ⟨0, 0, 0, 0, 0⟩
theorem Fnd.len (x : Fnd) : x.cs.length = 5 := rfl
theorem zero27 (w : World) : (zeroValue 27).run Tryd.prog w = .ok Fnd.zero.v w := by kernel_rfl
theorem inf27 : ∃ i, Tryd.prog.info? 27 = some i ∧ i.size = 5 := ⟨(Tryd.prog.info? 27).get (by kernel_rfl), by kernel_rfl, by kernel_rfl⟩
@[go_sem] theorem fa27x0 (g o : Nat) : QfieldAddr Tryd.prog 27 (.pointer (some ⟨g, o, none⟩)) 0 = some (.pointer (some ⟨g, o, none⟩)) := by kernel_rfl
@[go_sem high] theorem fb27x0 (g : Nat) : QfieldAddr Tryd.prog 27 (.pointer (some ⟨g, 0, none⟩)) 0 = some (.pointer (some ⟨g, 0, none⟩)) := by kernel_rfl
theorem one23 : one Tryd.prog 23 = true := by kernel_rfl
@[go_sem] theorem fa27x1 (g o : Nat) : QfieldAddr Tryd.prog 27 (.pointer (some ⟨g, o, none⟩)) 1 = some (.pointer (some ⟨g, o + 1, none⟩)) := by kernel_rfl
@[go_sem high] theorem fb27x1 (g : Nat) : QfieldAddr Tryd.prog 27 (.pointer (some ⟨g, 0, none⟩)) 1 = some (.pointer (some ⟨g, 1, none⟩)) := by kernel_rfl
theorem one3 : one Tryd.prog 3 = true := by kernel_rfl
@[go_sem] theorem fa27x2 (g o : Nat) : QfieldAddr Tryd.prog 27 (.pointer (some ⟨g, o, none⟩)) 2 = some (.pointer (some ⟨g, o + 2, none⟩)) := by kernel_rfl
@[go_sem high] theorem fb27x2 (g : Nat) : QfieldAddr Tryd.prog 27 (.pointer (some ⟨g, 0, none⟩)) 2 = some (.pointer (some ⟨g, 2, none⟩)) := by kernel_rfl
@[go_sem] theorem fa27x3 (g o : Nat) : QfieldAddr Tryd.prog 27 (.pointer (some ⟨g, o, none⟩)) 3 = some (.pointer (some ⟨g, o + 3, none⟩)) := by kernel_rfl
@[go_sem high] theorem fb27x3 (g : Nat) : QfieldAddr Tryd.prog 27 (.pointer (some ⟨g, 0, none⟩)) 3 = some (.pointer (some ⟨g, 3, none⟩)) := by kernel_rfl
theorem one24 : one Tryd.prog 24 = true := by kernel_rfl
@[go_sem] theorem fa27x4 (g o : Nat) : QfieldAddr Tryd.prog 27 (.pointer (some ⟨g, o, none⟩)) 4 = some (.pointer (some ⟨g, o + 4, none⟩)) := by kernel_rfl
@[go_sem high] theorem fb27x4 (g : Nat) : QfieldAddr Tryd.prog 27 (.pointer (some ⟨g, 0, none⟩)) 4 = some (.pointer (some ⟨g, 4, none⟩)) := by kernel_rfl
theorem one25 : one Tryd.prog 25 = true := by kernel_rfl
theorem Fnd.f0 {x : Fnd} {w : World} {g o : Nat} (h : CellsAt x.cs w g o) : Qload Tryd.prog 23 (.pointer (some ⟨g, o, none⟩)) w = some (.int .i64 x.kind) := Qload_cell one23 (h 0 _ rfl)
theorem Fnd.b0 {x : Fnd} {w : World} {g : Nat} (h : CellsAt x.cs w g 0) : Qload Tryd.prog 23 (.pointer (some ⟨g, 0, none⟩)) w = some (.int .i64 x.kind) := Qload_cell one23 (by have := h 0 _ rfl; rwa [Nat.zero_add] at this)
theorem Fnd.f1 {x : Fnd} {w : World} {g o : Nat} (h : CellsAt x.cs w g o) : Qload Tryd.prog 3 (.pointer (some ⟨g, o + 1, none⟩)) w = some (.int .i64 x.start) := Qload_cell one3 (h 1 _ rfl)
theorem Fnd.b1 {x : Fnd} {w : World} {g : Nat} (h : CellsAt x.cs w g 0) : Qload Tryd.prog 3 (.pointer (some ⟨g, 1, none⟩)) w = some (.int .i64 x.start) := Qload_cell one3 (by have := h 1 _ rfl; rwa [Nat.zero_add] at this)
theorem Fnd.f2 {x : Fnd} {w : World} {g o : Nat} (h : CellsAt x.cs w g o) : Qload Tryd.prog 3 (.pointer (some ⟨g, o + 2, none⟩)) w = some (.int .i64 x.end_) := Qload_cell one3 (h 2 _ rfl)
theorem Fnd.b2 {x : Fnd} {w : World} {g : Nat} (h : CellsAt x.cs w g 0) : Qload Tryd.prog 3 (.pointer (some ⟨g, 2, none⟩)) w = some (.int .i64 x.end_) := Qload_cell one3 (by have := h 2 _ rfl; rwa [Nat.zero_add] at this)
theorem Fnd.f3 {x : Fnd} {w : World} {g o : Nat} (h : CellsAt x.cs w g o) : Qload Tryd.prog 24 (.pointer (some ⟨g, o + 3, none⟩)) w = some (.int .u32 x.addr) := Qload_cell one24 (h 3 _ rfl)
theorem Fnd.b3 {x : Fnd} {w : World} {g : Nat} (h : CellsAt x.cs w g 0) : Qload Tryd.prog 24 (.pointer (some ⟨g, 3, none⟩)) w = some (.int .u32 x.addr) := Qload_cell one24 (by have := h 3 _ rfl; rwa [Nat.zero_add] at this)
theorem Fnd.f4 {x : Fnd} {w : World} {g o : Nat} (h : CellsAt x.cs w g o) : Qload Tryd.prog 25 (.pointer (some ⟨g, o + 4, none⟩)) w = some (.int .u16 x.port) := Qload_cell one25 (h 4 _ rfl)
theorem Fnd.b4 {x : Fnd} {w : World} {g : Nat} (h : CellsAt x.cs w g 0) : Qload Tryd.prog 25 (.pointer (some ⟨g, 4, none⟩)) w = some (.int .u16 x.port) := Qload_cell one25 (by have := h 4 _ rfl; rwa [Nat.zero_add] at this)
theorem Fnd.all {x : Fnd} {w : World} {g o : Nat} (h : CellsAt x.cs w g o) : Qload Tryd.prog 27 (.pointer (some ⟨g, o, none⟩)) w = some x.v := by
  obtain ⟨i, hi, hs⟩ := inf27
  exact Qload_cells Tryd.underlying27 hi (hs.trans x.len.symm) h
theorem Fnd.box (x : Fnd) (w : World) : Xbox Tryd.prog 27 x.v w = some (.pointer (some ⟨w.heap.size, 0, none⟩), w.alloc (.cells x.cs.toArray 27)) := nonrfl rfl
theorem Fnd.new (x : Fnd) (w : World) : CellsAt x.cs (w.alloc (.cells x.cs.toArray 27)) w.heap.size 0 := CellsAt.of (MapKept.heap_alloc w _).1
theorem Fnd.one1 (x : Fnd) : ∀ u ∈ x.v.cells.toList, u.oneCell' = true := by
  intro u hu
  have hu : u ∈ x.cs := by simpa [Fnd.v, Value.cells] using hu
  exact List.all_eq_true.1 (show x.cs.all (fun u => u.oneCell') = true from rfl) u hu
theorem alloc27 (w : World) : Xalloc Tryd.prog 27 w = some (.pointer (some ⟨w.heap.size, 0, none⟩), w.alloc (.cells Fnd.zero.cs.toArray 27)) := Xalloc_eq (zero27 w)
set_option maxRecDepth 100000 in
theorem store27 {x : Fnd} {w : World} {g : Nat} {cur : Array Value} {te : TypeId} (hg : w.heap[g]? = some (.cells cur te (0, 0))) (hc : cur.size = 5) : Xstore Tryd.prog 27 (.pointer (some ⟨g, 0, none⟩)) x.v w = some (undef, w.setRow g x.cs.toArray) := by
  obtain ⟨i, hi, hs⟩ := inf27
  exact Xstore_var (v := x.v) hi (by rw [hs]; rfl) hg (by rw [hs]; exact hc) x.one1
set_option maxRecDepth 100000 in
theorem put27 (x z : Fnd) (w : World) : Xstore Tryd.prog 27 (.pointer (some ⟨w.heap.size, 0, none⟩)) x.v (w.alloc (.cells z.cs.toArray 27)) = some (undef, (w.alloc (.cells z.cs.toArray 27)).setRow w.heap.size x.cs.toArray) := store27 (MapKept.heap_alloc w _).1 rfl
set_option maxRecDepth 100000 in
theorem okc27 {w : World} {n : Nat} {cs : List Value} (h : Okc Tryd.prog w n 27 cs) : ∃ x : Fnd, cs = x.cs ∧ x.ok := by
  cases n with
  | zero => exact h.elim
  | succ n =>
    unfold Okc at h
    rw [Tryd.underlying27] at h
    obtain ⟨hl, hf⟩ := h
    rw [show Tryd.prog.cellsOf 27 = 5 from by kernel_rfl] at hl
    match cs, hl, hf with
    | [c0, c1, c2, c3, c4], _, hf =>
      have h0 := hf _ (List.mem_iff_getElem.2 ⟨0, by decide +kernel, rfl⟩)
      change Okc Tryd.prog w n 23 (([c0, c1, c2, c3, c4].drop 0).take (Tryd.prog.cellsOf 23)) at h0
      rw [show Tryd.prog.cellsOf 23 = 1 from by kernel_rfl] at h0
      obtain ⟨m0, e0, w0⟩ := okc_int (k := .i64) (by kernel_rfl) h0
      have h1 := hf _ (List.mem_iff_getElem.2 ⟨1, by decide +kernel, rfl⟩)
      change Okc Tryd.prog w n 3 (([c0, c1, c2, c3, c4].drop 1).take (Tryd.prog.cellsOf 3)) at h1
      rw [show Tryd.prog.cellsOf 3 = 1 from by kernel_rfl] at h1
      obtain ⟨m1, e1, w1⟩ := okc_int (k := .i64) (by kernel_rfl) h1
      have h2 := hf _ (List.mem_iff_getElem.2 ⟨2, by decide +kernel, rfl⟩)
      change Okc Tryd.prog w n 3 (([c0, c1, c2, c3, c4].drop 2).take (Tryd.prog.cellsOf 3)) at h2
      rw [show Tryd.prog.cellsOf 3 = 1 from by kernel_rfl] at h2
      obtain ⟨m2, e2, w2⟩ := okc_int (k := .i64) (by kernel_rfl) h2
      have h3 := hf _ (List.mem_iff_getElem.2 ⟨3, by decide +kernel, rfl⟩)
      change Okc Tryd.prog w n 24 (([c0, c1, c2, c3, c4].drop 3).take (Tryd.prog.cellsOf 24)) at h3
      rw [show Tryd.prog.cellsOf 24 = 1 from by kernel_rfl] at h3
      obtain ⟨m3, e3, w3⟩ := okc_int (k := .u32) (by kernel_rfl) h3
      have h4 := hf _ (List.mem_iff_getElem.2 ⟨4, by decide +kernel, rfl⟩)
      change Okc Tryd.prog w n 25 (([c0, c1, c2, c3, c4].drop 4).take (Tryd.prog.cellsOf 25)) at h4
      rw [show Tryd.prog.cellsOf 25 = 1 from by kernel_rfl] at h4
      obtain ⟨m4, e4, w4⟩ := okc_int (k := .u16) (by kernel_rfl) h4
      refine ⟨⟨m0, m1, m2, m3, m4⟩, ?_, ⟨w0, w1, w2, w3, w4⟩⟩
      subst e0 e1 e2 e3 e4
      rfl
set_option maxRecDepth 100000 in
theorem open27 {w : World} {r : Reach} {b n : Nat} {v : Value} (hw : Value.okWide Tryd.prog w r b 27 v) (h : Okc Tryd.prog w n 27 v.cells.toList) : ∃ x : Fnd, v = x.v ∧ x.ok := by
  obtain ⟨cs, rfl, _⟩ := Go.WideShapes.okWide_struct Tryd.underlying27 hw
  obtain ⟨x, hx, hok⟩ := okc27 h
  exact ⟨x, by rw [Fnd.v, ← hx]; rfl, hok⟩
set_option maxRecDepth 100000 in
theorem eqv27 (x y : Fnd) : eqV Tryd.prog 27 x.v y.v = (match (x.kind == y.kind) with | true => (match (x.start == y.start) with | true => (match (x.end_ == y.end_) with | true => (match (x.addr == y.addr) with | true => (match (x.port == y.port) with | true => (some true) | false => some false) | false => some false) | false => some false) | false => some false) | false => some false) := by kernel_rfl
set_option maxRecDepth 100000 in
theorem eqq27 (x y : Fnd) : eqV Tryd.prog 27 x.v y.v = some (decide (x = y)) := by
  rw [eqv27]
  obtain ⟨a0, a1, a2, a3, a4⟩ := x
  obtain ⟨b0, b1, b2, b3, b4⟩ := y
  simp only [Fnd.mk.injEq]
  cases h0 : (a0 == b0)
  · have : ¬ a0 = b0 := by simpa using h0
    simp [this]
  have e0 : a0 = b0 := by simpa using h0
  cases h1 : (a1 == b1)
  · have : ¬ a1 = b1 := by simpa using h1
    simp [this]
  have e1 : a1 = b1 := by simpa using h1
  cases h2 : (a2 == b2)
  · have : ¬ a2 = b2 := by simpa using h2
    simp [this]
  have e2 : a2 = b2 := by simpa using h2
  cases h3 : (a3 == b3)
  · have : ¬ a3 = b3 := by simpa using h3
    simp [this]
  have e3 : a3 = b3 := by simpa using h3
  cases h4 : (a4 == b4)
  · have : ¬ a4 = b4 := by simpa using h4
    simp [this]
  have e4 : a4 = b4 := by simpa using h4
  simp [e0, e1, e2, e3, e4]
theorem Fnd.eql (x y : Fnd) : Qbin Tryd.prog .eql 27 x.v y.v = some (.bool (decide (x = y))) := by
  show (eqV Tryd.prog 27 x.v y.v).map Value.bool = _
  rw [eqq27]; rfl
theorem Fnd.neq (x y : Fnd) : Qbin Tryd.prog .neq 27 x.v y.v = some (.bool (!decide (x = y))) := by
  show (eqV Tryd.prog 27 x.v y.v).map (fun b => Value.bool !b) = _
  rw [eqq27]; rfl
/-! ### Rfd: type 31 -/
structure Rfd where
  kind : Int
  start : Int
  end_ : Int
  addr : Int
  port : Int
  deriving DecidableEq
def Rfd.cs (x : Rfd) : List Value := [.int .i64 x.kind] ++ [.int .i64 x.start] ++ [.int .i64 x.end_] ++ [.int .u32 x.addr] ++ [.int .u16 x.port]
def Rfd.v (x : Rfd) : Value := .agg x.cs.toArray
def Rfd.ok (x : Rfd) : Prop := (Lit.int .i64 x.kind).wf = true ∧ (Lit.int .i64 x.start).wf = true ∧ (Lit.int .i64 x.end_).wf = true ∧ (Lit.int .u32 x.addr).wf = true ∧ (Lit.int .u16 x.port).wf = true
def Rfd.zero : Rfd := ⟨0, 0, 0, 0, 0⟩
theorem Rfd.len (x : Rfd) : x.cs.length = 5 := rfl
theorem zero31 (w : World) : (zeroValue 31).run Tryd.prog w = .ok Rfd.zero.v w := by kernel_rfl
theorem inf31 : ∃ i, Tryd.prog.info? 31 = some i ∧ i.size = 5 := ⟨(Tryd.prog.info? 31).get (by kernel_rfl), by kernel_rfl, by kernel_rfl⟩
@[go_sem] theorem fa31x0 (g o : Nat) : QfieldAddr Tryd.prog 31 (.pointer (some ⟨g, o, none⟩)) 0 = some (.pointer (some ⟨g, o, none⟩)) := by kernel_rfl
@[go_sem high] theorem fb31x0 (g : Nat) : QfieldAddr Tryd.prog 31 (.pointer (some ⟨g, 0, none⟩)) 0 = some (.pointer (some ⟨g, 0, none⟩)) := by kernel_rfl
@[go_sem] theorem fa31x1 (g o : Nat) : QfieldAddr Tryd.prog 31 (.pointer (some ⟨g, o, none⟩)) 1 = some (.pointer (some ⟨g, o + 1, none⟩)) := by kernel_rfl
@[go_sem high] theorem fb31x1 (g : Nat) : QfieldAddr Tryd.prog 31 (.pointer (some ⟨g, 0, none⟩)) 1 = some (.pointer (some ⟨g, 1, none⟩)) := by kernel_rfl
@[go_sem] theorem fa31x2 (g o : Nat) : QfieldAddr Tryd.prog 31 (.pointer (some ⟨g, o, none⟩)) 2 = some (.pointer (some ⟨g, o + 2, none⟩)) := by kernel_rfl
@[go_sem high] theorem fb31x2 (g : Nat) : QfieldAddr Tryd.prog 31 (.pointer (some ⟨g, 0, none⟩)) 2 = some (.pointer (some ⟨g, 2, none⟩)) := by kernel_rfl
@[go_sem] theorem fa31x3 (g o : Nat) : QfieldAddr Tryd.prog 31 (.pointer (some ⟨g, o, none⟩)) 3 = some (.pointer (some ⟨g, o + 3, none⟩)) := by kernel_rfl
@[go_sem high] theorem fb31x3 (g : Nat) : QfieldAddr Tryd.prog 31 (.pointer (some ⟨g, 0, none⟩)) 3 = some (.pointer (some ⟨g, 3, none⟩)) := by kernel_rfl
@[go_sem] theorem fa31x4 (g o : Nat) : QfieldAddr Tryd.prog 31 (.pointer (some ⟨g, o, none⟩)) 4 = some (.pointer (some ⟨g, o + 4, none⟩)) := by kernel_rfl
@[go_sem high] theorem fb31x4 (g : Nat) : QfieldAddr Tryd.prog 31 (.pointer (some ⟨g, 0, none⟩)) 4 = some (.pointer (some ⟨g, 4, none⟩)) := by kernel_rfl
theorem Rfd.f0 {x : Rfd} {w : World} {g o : Nat} (h : CellsAt x.cs w g o) : Qload Tryd.prog 3 (.pointer (some ⟨g, o, none⟩)) w = some (.int .i64 x.kind) := Qload_cell one3 (h 0 _ rfl)
theorem Rfd.b0 {x : Rfd} {w : World} {g : Nat} (h : CellsAt x.cs w g 0) : Qload Tryd.prog 3 (.pointer (some ⟨g, 0, none⟩)) w = some (.int .i64 x.kind) := Qload_cell one3 (by have := h 0 _ rfl; rwa [Nat.zero_add] at this)
theorem Rfd.f1 {x : Rfd} {w : World} {g o : Nat} (h : CellsAt x.cs w g o) : Qload Tryd.prog 3 (.pointer (some ⟨g, o + 1, none⟩)) w = some (.int .i64 x.start) := Qload_cell one3 (h 1 _ rfl)
theorem Rfd.b1 {x : Rfd} {w : World} {g : Nat} (h : CellsAt x.cs w g 0) : Qload Tryd.prog 3 (.pointer (some ⟨g, 1, none⟩)) w = some (.int .i64 x.start) := Qload_cell one3 (by have := h 1 _ rfl; rwa [Nat.zero_add] at this)
theorem Rfd.f2 {x : Rfd} {w : World} {g o : Nat} (h : CellsAt x.cs w g o) : Qload Tryd.prog 3 (.pointer (some ⟨g, o + 2, none⟩)) w = some (.int .i64 x.end_) := Qload_cell one3 (h 2 _ rfl)
theorem Rfd.b2 {x : Rfd} {w : World} {g : Nat} (h : CellsAt x.cs w g 0) : Qload Tryd.prog 3 (.pointer (some ⟨g, 2, none⟩)) w = some (.int .i64 x.end_) := Qload_cell one3 (by have := h 2 _ rfl; rwa [Nat.zero_add] at this)
theorem Rfd.f3 {x : Rfd} {w : World} {g o : Nat} (h : CellsAt x.cs w g o) : Qload Tryd.prog 24 (.pointer (some ⟨g, o + 3, none⟩)) w = some (.int .u32 x.addr) := Qload_cell one24 (h 3 _ rfl)
theorem Rfd.b3 {x : Rfd} {w : World} {g : Nat} (h : CellsAt x.cs w g 0) : Qload Tryd.prog 24 (.pointer (some ⟨g, 3, none⟩)) w = some (.int .u32 x.addr) := Qload_cell one24 (by have := h 3 _ rfl; rwa [Nat.zero_add] at this)
theorem Rfd.f4 {x : Rfd} {w : World} {g o : Nat} (h : CellsAt x.cs w g o) : Qload Tryd.prog 25 (.pointer (some ⟨g, o + 4, none⟩)) w = some (.int .u16 x.port) := Qload_cell one25 (h 4 _ rfl)
theorem Rfd.b4 {x : Rfd} {w : World} {g : Nat} (h : CellsAt x.cs w g 0) : Qload Tryd.prog 25 (.pointer (some ⟨g, 4, none⟩)) w = some (.int .u16 x.port) := Qload_cell one25 (by have := h 4 _ rfl; rwa [Nat.zero_add] at this)
theorem Rfd.all {x : Rfd} {w : World} {g o : Nat} (h : CellsAt x.cs w g o) : Qload Tryd.prog 31 (.pointer (some ⟨g, o, none⟩)) w = some x.v := by
  obtain ⟨i, hi, hs⟩ := inf31
  exact Qload_cells Tryd.underlying31 hi (hs.trans x.len.symm) h
theorem Rfd.box (x : Rfd) (w : World) : Xbox Tryd.prog 31 x.v w = some (.pointer (some ⟨w.heap.size, 0, none⟩), w.alloc (.cells x.cs.toArray 31)) := nonrfl rfl
theorem Rfd.new (x : Rfd) (w : World) : CellsAt x.cs (w.alloc (.cells x.cs.toArray 31)) w.heap.size 0 := CellsAt.of (MapKept.heap_alloc w _).1
theorem Rfd.one1 (x : Rfd) : ∀ u ∈ x.v.cells.toList, u.oneCell' = true := by
  intro u hu
  have hu : u ∈ x.cs := by simpa [Rfd.v, Value.cells] using hu
  exact List.all_eq_true.1 (show x.cs.all (fun u => u.oneCell') = true from rfl) u hu
theorem alloc31 (w : World) : Xalloc Tryd.prog 31 w = some (.pointer (some ⟨w.heap.size, 0, none⟩), w.alloc (.cells Rfd.zero.cs.toArray 31)) := Xalloc_eq (zero31 w)
set_option maxRecDepth 100000 in
theorem store31 {x : Rfd} {w : World} {g : Nat} {cur : Array Value} {te : TypeId} (hg : w.heap[g]? = some (.cells cur te (0, 0))) (hc : cur.size = 5) : Xstore Tryd.prog 31 (.pointer (some ⟨g, 0, none⟩)) x.v w = some (undef, w.setRow g x.cs.toArray) := by
  obtain ⟨i, hi, hs⟩ := inf31
  exact Xstore_var (v := x.v) hi (by rw [hs]; rfl) hg (by rw [hs]; exact hc) x.one1
set_option maxRecDepth 100000 in
theorem put31 (x z : Rfd) (w : World) : Xstore Tryd.prog 31 (.pointer (some ⟨w.heap.size, 0, none⟩)) x.v (w.alloc (.cells z.cs.toArray 31)) = some (undef, (w.alloc (.cells z.cs.toArray 31)).setRow w.heap.size x.cs.toArray) := store31 (MapKept.heap_alloc w _).1 rfl
set_option maxRecDepth 100000 in
theorem okc31 {w : World} {n : Nat} {cs : List Value} (h : Okc Tryd.prog w n 31 cs) : ∃ x : Rfd, cs = x.cs ∧ x.ok := by
  cases n with
  | zero => exact h.elim
  | succ n =>
    unfold Okc at h
    rw [Tryd.underlying31] at h
    obtain ⟨hl, hf⟩ := h
    rw [show Tryd.prog.cellsOf 31 = 5 from by kernel_rfl] at hl
    match cs, hl, hf with
    | [c0, c1, c2, c3, c4], _, hf =>
      have h0 := hf _ (List.mem_iff_getElem.2 ⟨0, by decide +kernel, rfl⟩)
      change Okc Tryd.prog w n 3 (([c0, c1, c2, c3, c4].drop 0).take (Tryd.prog.cellsOf 3)) at h0
      rw [show Tryd.prog.cellsOf 3 = 1 from by kernel_rfl] at h0
      obtain ⟨m0, e0, w0⟩ := okc_int (k := .i64) (by kernel_rfl) h0
      have h1 := hf _ (List.mem_iff_getElem.2 ⟨1, by decide +kernel, rfl⟩)
      change Okc Tryd.prog w n 3 (([c0, c1, c2, c3, c4].drop 1).take (Tryd.prog.cellsOf 3)) at h1
      rw [show Tryd.prog.cellsOf 3 = 1 from by kernel_rfl] at h1
      obtain ⟨m1, e1, w1⟩ := okc_int (k := .i64) (by kernel_rfl) h1
      have h2 := hf _ (List.mem_iff_getElem.2 ⟨2, by decide +kernel, rfl⟩)
      change Okc Tryd.prog w n 3 (([c0, c1, c2, c3, c4].drop 2).take (Tryd.prog.cellsOf 3)) at h2
      rw [show Tryd.prog.cellsOf 3 = 1 from by kernel_rfl] at h2
      obtain ⟨m2, e2, w2⟩ := okc_int (k := .i64) (by kernel_rfl) h2
      have h3 := hf _ (List.mem_iff_getElem.2 ⟨3, by decide +kernel, rfl⟩)
      change Okc Tryd.prog w n 24 (([c0, c1, c2, c3, c4].drop 3).take (Tryd.prog.cellsOf 24)) at h3
      rw [show Tryd.prog.cellsOf 24 = 1 from by kernel_rfl] at h3
      obtain ⟨m3, e3, w3⟩ := okc_int (k := .u32) (by kernel_rfl) h3
      have h4 := hf _ (List.mem_iff_getElem.2 ⟨4, by decide +kernel, rfl⟩)
      change Okc Tryd.prog w n 25 (([c0, c1, c2, c3, c4].drop 4).take (Tryd.prog.cellsOf 25)) at h4
      rw [show Tryd.prog.cellsOf 25 = 1 from by kernel_rfl] at h4
      obtain ⟨m4, e4, w4⟩ := okc_int (k := .u16) (by kernel_rfl) h4
      refine ⟨⟨m0, m1, m2, m3, m4⟩, ?_, ⟨w0, w1, w2, w3, w4⟩⟩
      subst e0 e1 e2 e3 e4
      rfl
set_option maxRecDepth 100000 in
theorem open31 {w : World} {r : Reach} {b n : Nat} {v : Value} (hw : Value.okWide Tryd.prog w r b 31 v) (h : Okc Tryd.prog w n 31 v.cells.toList) : ∃ x : Rfd, v = x.v ∧ x.ok := by
  obtain ⟨cs, rfl, _⟩ := Go.WideShapes.okWide_struct Tryd.underlying31 hw
  obtain ⟨x, hx, hok⟩ := okc31 h
  exact ⟨x, by rw [Rfd.v, ← hx]; rfl, hok⟩
set_option maxRecDepth 100000 in
theorem eqv31 (x y : Rfd) : eqV Tryd.prog 31 x.v y.v = (match (x.kind == y.kind) with | true => (match (x.start == y.start) with | true => (match (x.end_ == y.end_) with | true => (match (x.addr == y.addr) with | true => (match (x.port == y.port) with | true => (some true) | false => some false) | false => some false) | false => some false) | false => some false) | false => some false) := by kernel_rfl
set_option maxRecDepth 100000 in
theorem eqq31 (x y : Rfd) : eqV Tryd.prog 31 x.v y.v = some (decide (x = y)) := by
  rw [eqv31]
  obtain ⟨a0, a1, a2, a3, a4⟩ := x
  obtain ⟨b0, b1, b2, b3, b4⟩ := y
  simp only [Rfd.mk.injEq]
  cases h0 : (a0 == b0)
  · have : ¬ a0 = b0 := by simpa using h0
    simp [this]
  have e0 : a0 = b0 := by simpa using h0
  cases h1 : (a1 == b1)
  · have : ¬ a1 = b1 := by simpa using h1
    simp [this]
  have e1 : a1 = b1 := by simpa using h1
  cases h2 : (a2 == b2)
  · have : ¬ a2 = b2 := by simpa using h2
    simp [this]
  have e2 : a2 = b2 := by simpa using h2
  cases h3 : (a3 == b3)
  · have : ¬ a3 = b3 := by simpa using h3
    simp [this]
  have e3 : a3 = b3 := by simpa using h3
  cases h4 : (a4 == b4)
  · have : ¬ a4 = b4 := by simpa using h4
    simp [this]
  have e4 : a4 = b4 := by simpa using h4
  simp [e0, e1, e2, e3, e4]
theorem Rfd.eql (x y : Rfd) : Qbin Tryd.prog .eql 31 x.v y.v = some (.bool (decide (x = y))) := by
  show (eqV Tryd.prog 31 x.v y.v).map Value.bool = _
  rw [eqq31]; rfl
theorem Rfd.neq (x y : Rfd) : Qbin Tryd.prog .neq 31 x.v y.v = some (.bool (!decide (x = y))) := by
  show (eqV Tryd.prog 31 x.v y.v).map (fun b => Value.bool !b) = _
  rw [eqq31]; rfl
/-! ### Dst: type 42 -/
structure Dst where
  addr : Int
  port : Int
  deriving DecidableEq
def Dst.cs (x : Dst) : List Value := [.int .u32 x.addr] ++ [.int .u16 x.port]
def Dst.v (x : Dst) : Value := .agg x.cs.toArray
def Dst.ok (x : Dst) : Prop := (Lit.int .u32 x.addr).wf = true ∧ (Lit.int .u16 x.port).wf = true
def Dst.zero : Dst := ⟨0, 0⟩
theorem Dst.len (x : Dst) : x.cs.length = 2 := rfl
theorem zero42 (w : World) : (zeroValue 42).run Tryd.prog w = .ok Dst.zero.v w := by kernel_rfl
theorem inf42 : ∃ i, Tryd.prog.info? 42 = some i ∧ i.size = 2 := ⟨(Tryd.prog.info? 42).get (by kernel_rfl), by kernel_rfl, by kernel_rfl⟩
@[go_sem] theorem fa42x0 (g o : Nat) : QfieldAddr Tryd.prog 42 (.pointer (some ⟨g, o, none⟩)) 0 = some (.pointer (some ⟨g, o, none⟩)) := by kernel_rfl
@[go_sem high] theorem fb42x0 (g : Nat) : QfieldAddr Tryd.prog 42 (.pointer (some ⟨g, 0, none⟩)) 0 = some (.pointer (some ⟨g, 0, none⟩)) := by kernel_rfl
@[go_sem] theorem fa42x1 (g o : Nat) : QfieldAddr Tryd.prog 42 (.pointer (some ⟨g, o, none⟩)) 1 = some (.pointer (some ⟨g, o + 1, none⟩)) := by kernel_rfl
@[go_sem high] theorem fb42x1 (g : Nat) : QfieldAddr Tryd.prog 42 (.pointer (some ⟨g, 0, none⟩)) 1 = some (.pointer (some ⟨g, 1, none⟩)) := by kernel_rfl
theorem Dst.f0 {x : Dst} {w : World} {g o : Nat} (h : CellsAt x.cs w g o) : Qload Tryd.prog 24 (.pointer (some ⟨g, o, none⟩)) w = some (.int .u32 x.addr) := Qload_cell one24 (h 0 _ rfl)
theorem Dst.b0 {x : Dst} {w : World} {g : Nat} (h : CellsAt x.cs w g 0) : Qload Tryd.prog 24 (.pointer (some ⟨g, 0, none⟩)) w = some (.int .u32 x.addr) := Qload_cell one24 (by have := h 0 _ rfl; rwa [Nat.zero_add] at this)
theorem Dst.f1 {x : Dst} {w : World} {g o : Nat} (h : CellsAt x.cs w g o) : Qload Tryd.prog 25 (.pointer (some ⟨g, o + 1, none⟩)) w = some (.int .u16 x.port) := Qload_cell one25 (h 1 _ rfl)
theorem Dst.b1 {x : Dst} {w : World} {g : Nat} (h : CellsAt x.cs w g 0) : Qload Tryd.prog 25 (.pointer (some ⟨g, 1, none⟩)) w = some (.int .u16 x.port) := Qload_cell one25 (by have := h 1 _ rfl; rwa [Nat.zero_add] at this)
theorem Dst.all {x : Dst} {w : World} {g o : Nat} (h : CellsAt x.cs w g o) : Qload Tryd.prog 42 (.pointer (some ⟨g, o, none⟩)) w = some x.v := by
  obtain ⟨i, hi, hs⟩ := inf42
  exact Qload_cells Tryd.underlying42 hi (hs.trans x.len.symm) h
theorem Dst.box (x : Dst) (w : World) : Xbox Tryd.prog 42 x.v w = some (.pointer (some ⟨w.heap.size, 0, none⟩), w.alloc (.cells x.cs.toArray 42)) := nonrfl rfl
theorem Dst.new (x : Dst) (w : World) : CellsAt x.cs (w.alloc (.cells x.cs.toArray 42)) w.heap.size 0 := CellsAt.of (MapKept.heap_alloc w _).1
theorem Dst.one1 (x : Dst) : ∀ u ∈ x.v.cells.toList, u.oneCell' = true := by
  intro u hu
  have hu : u ∈ x.cs := by simpa [Dst.v, Value.cells] using hu
  exact List.all_eq_true.1 (show x.cs.all (fun u => u.oneCell') = true from rfl) u hu
theorem alloc42 (w : World) : Xalloc Tryd.prog 42 w = some (.pointer (some ⟨w.heap.size, 0, none⟩), w.alloc (.cells Dst.zero.cs.toArray 42)) := Xalloc_eq (zero42 w)
set_option maxRecDepth 100000 in
theorem store42 {x : Dst} {w : World} {g : Nat} {cur : Array Value} {te : TypeId} (hg : w.heap[g]? = some (.cells cur te (0, 0))) (hc : cur.size = 2) : Xstore Tryd.prog 42 (.pointer (some ⟨g, 0, none⟩)) x.v w = some (undef, w.setRow g x.cs.toArray) := by
  obtain ⟨i, hi, hs⟩ := inf42
  exact Xstore_var (v := x.v) hi (by rw [hs]; rfl) hg (by rw [hs]; exact hc) x.one1
set_option maxRecDepth 100000 in
theorem put42 (x z : Dst) (w : World) : Xstore Tryd.prog 42 (.pointer (some ⟨w.heap.size, 0, none⟩)) x.v (w.alloc (.cells z.cs.toArray 42)) = some (undef, (w.alloc (.cells z.cs.toArray 42)).setRow w.heap.size x.cs.toArray) := store42 (MapKept.heap_alloc w _).1 rfl
set_option maxRecDepth 100000 in
theorem okc42 {w : World} {n : Nat} {cs : List Value} (h : Okc Tryd.prog w n 42 cs) : ∃ x : Dst, cs = x.cs ∧ x.ok := by
  cases n with
  | zero => exact h.elim
  | succ n =>
    unfold Okc at h
    rw [Tryd.underlying42] at h
    obtain ⟨hl, hf⟩ := h
    rw [show Tryd.prog.cellsOf 42 = 2 from by kernel_rfl] at hl
    match cs, hl, hf with
    | [c0, c1], _, hf =>
      have h0 := hf _ (List.mem_iff_getElem.2 ⟨0, by decide +kernel, rfl⟩)
      change Okc Tryd.prog w n 24 (([c0, c1].drop 0).take (Tryd.prog.cellsOf 24)) at h0
      rw [show Tryd.prog.cellsOf 24 = 1 from by kernel_rfl] at h0
      obtain ⟨m0, e0, w0⟩ := okc_int (k := .u32) (by kernel_rfl) h0
      have h1 := hf _ (List.mem_iff_getElem.2 ⟨1, by decide +kernel, rfl⟩)
      change Okc Tryd.prog w n 25 (([c0, c1].drop 1).take (Tryd.prog.cellsOf 25)) at h1
      rw [show Tryd.prog.cellsOf 25 = 1 from by kernel_rfl] at h1
      obtain ⟨m1, e1, w1⟩ := okc_int (k := .u16) (by kernel_rfl) h1
      refine ⟨⟨m0, m1⟩, ?_, ⟨w0, w1⟩⟩
      subst e0 e1
      rfl
set_option maxRecDepth 100000 in
theorem open42 {w : World} {r : Reach} {b n : Nat} {v : Value} (hw : Value.okWide Tryd.prog w r b 42 v) (h : Okc Tryd.prog w n 42 v.cells.toList) : ∃ x : Dst, v = x.v ∧ x.ok := by
  obtain ⟨cs, rfl, _⟩ := Go.WideShapes.okWide_struct Tryd.underlying42 hw
  obtain ⟨x, hx, hok⟩ := okc42 h
  exact ⟨x, by rw [Dst.v, ← hx]; rfl, hok⟩
set_option maxRecDepth 100000 in
theorem eqv42 (x y : Dst) : eqV Tryd.prog 42 x.v y.v = (match (x.addr == y.addr) with | true => (match (x.port == y.port) with | true => (some true) | false => some false) | false => some false) := by kernel_rfl
set_option maxRecDepth 100000 in
theorem eqq42 (x y : Dst) : eqV Tryd.prog 42 x.v y.v = some (decide (x = y)) := by
  rw [eqv42]
  obtain ⟨a0, a1⟩ := x
  obtain ⟨b0, b1⟩ := y
  simp only [Dst.mk.injEq]
  cases h0 : (a0 == b0)
  · have : ¬ a0 = b0 := by simpa using h0
    simp [this]
  have e0 : a0 = b0 := by simpa using h0
  cases h1 : (a1 == b1)
  · have : ¬ a1 = b1 := by simpa using h1
    simp [this]
  have e1 : a1 = b1 := by simpa using h1
  simp [e0, e1]
theorem Dst.eql (x y : Dst) : Qbin Tryd.prog .eql 42 x.v y.v = some (.bool (decide (x = y))) := by
  show (eqV Tryd.prog 42 x.v y.v).map Value.bool = _
  rw [eqq42]; rfl
theorem Dst.neq (x y : Dst) : Qbin Tryd.prog .neq 42 x.v y.v = some (.bool (!decide (x = y))) := by
  show (eqV Tryd.prog 42 x.v y.v).map (fun b => Value.bool !b) = _
  rw [eqq42]; rfl
/-! ### Txt: type 57 -/
structure Txt where
  b : Sl
  at_ : Int
  deriving DecidableEq
def Txt.cs (x : Txt) : List Value := [x.b.v] ++ [.int .i64 x.at_]
def Txt.v (x : Txt) : Value := .agg x.cs.toArray
def Txt.ok (x : Txt) : Prop := (Lit.int .i64 x.at_).wf = true
def Txt.zero : Txt := ⟨⟨none, 0, 0⟩, 0⟩
theorem Txt.len (x : Txt) : x.cs.length = 2 := rfl
theorem zero57 (w : World) : (zeroValue 57).run Tryd.prog w = .ok Txt.zero.v w := by kernel_rfl
theorem inf57 : ∃ i, Tryd.prog.info? 57 = some i ∧ i.size = 2 := ⟨(Tryd.prog.info? 57).get (by kernel_rfl), by kernel_rfl, by kernel_rfl⟩
@[go_sem] theorem fa57x0 (g o : Nat) : QfieldAddr Tryd.prog 57 (.pointer (some ⟨g, o, none⟩)) 0 = some (.pointer (some ⟨g, o, none⟩)) := by kernel_rfl
@[go_sem high] theorem fb57x0 (g : Nat) : QfieldAddr Tryd.prog 57 (.pointer (some ⟨g, 0, none⟩)) 0 = some (.pointer (some ⟨g, 0, none⟩)) := by kernel_rfl
theorem one22 : one Tryd.prog 22 = true := by kernel_rfl
@[go_sem] theorem fa57x1 (g o : Nat) : QfieldAddr Tryd.prog 57 (.pointer (some ⟨g, o, none⟩)) 1 = some (.pointer (some ⟨g, o + 1, none⟩)) := by kernel_rfl
@[go_sem high] theorem fb57x1 (g : Nat) : QfieldAddr Tryd.prog 57 (.pointer (some ⟨g, 0, none⟩)) 1 = some (.pointer (some ⟨g, 1, none⟩)) := by kernel_rfl
theorem Txt.f0 {x : Txt} {w : World} {g o : Nat} (h : CellsAt x.cs w g o) : Qload Tryd.prog 22 (.pointer (some ⟨g, o, none⟩)) w = some x.b.v := Qload_cell one22 (h 0 _ rfl)
theorem Txt.b0 {x : Txt} {w : World} {g : Nat} (h : CellsAt x.cs w g 0) : Qload Tryd.prog 22 (.pointer (some ⟨g, 0, none⟩)) w = some x.b.v := Qload_cell one22 (by have := h 0 _ rfl; rwa [Nat.zero_add] at this)
theorem Txt.f1 {x : Txt} {w : World} {g o : Nat} (h : CellsAt x.cs w g o) : Qload Tryd.prog 3 (.pointer (some ⟨g, o + 1, none⟩)) w = some (.int .i64 x.at_) := Qload_cell one3 (h 1 _ rfl)
theorem Txt.b1 {x : Txt} {w : World} {g : Nat} (h : CellsAt x.cs w g 0) : Qload Tryd.prog 3 (.pointer (some ⟨g, 1, none⟩)) w = some (.int .i64 x.at_) := Qload_cell one3 (by have := h 1 _ rfl; rwa [Nat.zero_add] at this)
theorem Txt.all {x : Txt} {w : World} {g o : Nat} (h : CellsAt x.cs w g o) : Qload Tryd.prog 57 (.pointer (some ⟨g, o, none⟩)) w = some x.v := by
  obtain ⟨i, hi, hs⟩ := inf57
  exact Qload_cells Tryd.underlying57 hi (hs.trans x.len.symm) h
theorem Txt.box (x : Txt) (w : World) : Xbox Tryd.prog 57 x.v w = some (.pointer (some ⟨w.heap.size, 0, none⟩), w.alloc (.cells x.cs.toArray 57)) := nonrfl rfl
theorem Txt.new (x : Txt) (w : World) : CellsAt x.cs (w.alloc (.cells x.cs.toArray 57)) w.heap.size 0 := CellsAt.of (MapKept.heap_alloc w _).1
theorem Txt.one1 (x : Txt) : ∀ u ∈ x.v.cells.toList, u.oneCell' = true := by
  intro u hu
  have hu : u ∈ x.cs := by simpa [Txt.v, Value.cells] using hu
  exact List.all_eq_true.1 (show x.cs.all (fun u => u.oneCell') = true from rfl) u hu
theorem alloc57 (w : World) : Xalloc Tryd.prog 57 w = some (.pointer (some ⟨w.heap.size, 0, none⟩), w.alloc (.cells Txt.zero.cs.toArray 57)) := Xalloc_eq (zero57 w)
set_option maxRecDepth 100000 in
theorem store57 {x : Txt} {w : World} {g : Nat} {cur : Array Value} {te : TypeId} (hg : w.heap[g]? = some (.cells cur te (0, 0))) (hc : cur.size = 2) : Xstore Tryd.prog 57 (.pointer (some ⟨g, 0, none⟩)) x.v w = some (undef, w.setRow g x.cs.toArray) := by
  obtain ⟨i, hi, hs⟩ := inf57
  exact Xstore_var (v := x.v) hi (by rw [hs]; rfl) hg (by rw [hs]; exact hc) x.one1
set_option maxRecDepth 100000 in
theorem put57 (x z : Txt) (w : World) : Xstore Tryd.prog 57 (.pointer (some ⟨w.heap.size, 0, none⟩)) x.v (w.alloc (.cells z.cs.toArray 57)) = some (undef, (w.alloc (.cells z.cs.toArray 57)).setRow w.heap.size x.cs.toArray) := store57 (MapKept.heap_alloc w _).1 rfl
/-! ### Rdr: type 59 -/
structure Rdr where
  text : Txt
  bad : Bool
  deriving DecidableEq
def Rdr.cs (x : Rdr) : List Value := x.text.cs ++ [.bool x.bad]
def Rdr.v (x : Rdr) : Value := .agg x.cs.toArray
def Rdr.ok (x : Rdr) : Prop := x.text.ok
def Rdr.zero : Rdr := ⟨Txt.zero, false⟩
theorem Rdr.len (x : Rdr) : x.cs.length = 3 := rfl
theorem zero59 (w : World) : (zeroValue 59).run Tryd.prog w = .ok Rdr.zero.v w := by kernel_rfl
theorem inf59 : ∃ i, Tryd.prog.info? 59 = some i ∧ i.size = 3 := ⟨(Tryd.prog.info? 59).get (by kernel_rfl), by kernel_rfl, by kernel_rfl⟩
@[go_sem] theorem fa59x0 (g o : Nat) : QfieldAddr Tryd.prog 59 (.pointer (some ⟨g, o, none⟩)) 0 = some (.pointer (some ⟨g, o, none⟩)) := by kernel_rfl
@[go_sem high] theorem fb59x0 (g : Nat) : QfieldAddr Tryd.prog 59 (.pointer (some ⟨g, 0, none⟩)) 0 = some (.pointer (some ⟨g, 0, none⟩)) := by kernel_rfl
@[go_sem] theorem fa59x1 (g o : Nat) : QfieldAddr Tryd.prog 59 (.pointer (some ⟨g, o, none⟩)) 1 = some (.pointer (some ⟨g, o + 2, none⟩)) := by kernel_rfl
@[go_sem high] theorem fb59x1 (g : Nat) : QfieldAddr Tryd.prog 59 (.pointer (some ⟨g, 0, none⟩)) 1 = some (.pointer (some ⟨g, 2, none⟩)) := by kernel_rfl
theorem one4 : one Tryd.prog 4 = true := by kernel_rfl
theorem Rdr.in0 {x : Rdr} {w : World} {g o : Nat} (h : CellsAt x.cs w g o) : CellsAt x.text.cs w g (o) := by
  have : x.cs = ([]) ++ x.text.cs ++ ([.bool x.bad]) := by simp [Rdr.cs]
  rw [this] at h
  exact h.part
theorem Rdr.f1 {x : Rdr} {w : World} {g o : Nat} (h : CellsAt x.cs w g o) : Qload Tryd.prog 4 (.pointer (some ⟨g, o + 2, none⟩)) w = some (.bool x.bad) := Qload_cell one4 (h 2 _ rfl)
theorem Rdr.b1 {x : Rdr} {w : World} {g : Nat} (h : CellsAt x.cs w g 0) : Qload Tryd.prog 4 (.pointer (some ⟨g, 2, none⟩)) w = some (.bool x.bad) := Qload_cell one4 (by have := h 2 _ rfl; rwa [Nat.zero_add] at this)
theorem Rdr.all {x : Rdr} {w : World} {g o : Nat} (h : CellsAt x.cs w g o) : Qload Tryd.prog 59 (.pointer (some ⟨g, o, none⟩)) w = some x.v := by
  obtain ⟨i, hi, hs⟩ := inf59
  exact Qload_cells Tryd.underlying59 hi (hs.trans x.len.symm) h
theorem Rdr.box (x : Rdr) (w : World) : Xbox Tryd.prog 59 x.v w = some (.pointer (some ⟨w.heap.size, 0, none⟩), w.alloc (.cells x.cs.toArray 59)) := nonrfl rfl
theorem Rdr.new (x : Rdr) (w : World) : CellsAt x.cs (w.alloc (.cells x.cs.toArray 59)) w.heap.size 0 := CellsAt.of (MapKept.heap_alloc w _).1
theorem Rdr.one1 (x : Rdr) : ∀ u ∈ x.v.cells.toList, u.oneCell' = true := by
  intro u hu
  have hu : u ∈ x.cs := by simpa [Rdr.v, Value.cells] using hu
  exact List.all_eq_true.1 (show x.cs.all (fun u => u.oneCell') = true from rfl) u hu
theorem alloc59 (w : World) : Xalloc Tryd.prog 59 w = some (.pointer (some ⟨w.heap.size, 0, none⟩), w.alloc (.cells Rdr.zero.cs.toArray 59)) := Xalloc_eq (zero59 w)
set_option maxRecDepth 100000 in
theorem store59 {x : Rdr} {w : World} {g : Nat} {cur : Array Value} {te : TypeId} (hg : w.heap[g]? = some (.cells cur te (0, 0))) (hc : cur.size = 3) : Xstore Tryd.prog 59 (.pointer (some ⟨g, 0, none⟩)) x.v w = some (undef, w.setRow g x.cs.toArray) := by
  obtain ⟨i, hi, hs⟩ := inf59
  exact Xstore_var (v := x.v) hi (by rw [hs]; rfl) hg (by rw [hs]; exact hc) x.one1
set_option maxRecDepth 100000 in
theorem put59 (x z : Rdr) (w : World) : Xstore Tryd.prog 59 (.pointer (some ⟨w.heap.size, 0, none⟩)) x.v (w.alloc (.cells z.cs.toArray 59)) = some (undef, (w.alloc (.cells z.cs.toArray 59)).setRow w.heap.size x.cs.toArray) := store59 (MapKept.heap_alloc w _).1 rfl
end Go.Proofs.YtphokckbcmiddaaDoor

/- Lines of FTP, as lists of bytes: what a line names, and how a line that names something looks. -/
namespace Go.Proofs.YtphokckbcmiddaaDoor.Ftp

abbrev Bs := List Int

def dig (c : Int) : Bool := decide (48 ≤ c) && decide (c ≤ 57)
def valA (a : Int) (l : Bs) : Int := l.foldl (fun a c => a * 10 + (c - 48)) a
abbrev val (l : Bs) : Int := valA 0 l
/-- The digits of a number. -/
def digs (n : Nat) : Bs := if n < 10 then [48 + (n : Int)] else digs (n / 10) ++ [48 + ((n % 10 : Nat) : Int)]
termination_by n
decreasing_by omega

theorem valA_app (a : Int) (l m : Bs) : valA a (l ++ m) = valA (valA a l) m := List.foldl_append
theorem valA_cons (a c : Int) (l : Bs) : valA a (c :: l) = valA (a * 10 + (c - 48)) l := rfl

theorem dig_iff {c : Int} : dig c = true ↔ 48 ≤ c ∧ c ≤ 57 := by simp [dig]

theorem digs_lt {n : Nat} (h : n < 10) : digs n = [48 + (n : Int)] := by unfold digs; rw [if_pos h]
theorem digs_ge {n : Nat} (h : ¬ n < 10) : digs n = digs (n / 10) ++ [48 + ((n % 10 : Nat) : Int)] := by conv => lhs; unfold digs; rw [if_neg h]

theorem digs_ne (n : Nat) : digs n ≠ [] := by
  by_cases h : n < 10
  · rw [digs_lt h]; simp
  · rw [digs_ge h]; simp
theorem digs_dig (n : Nat) : ∀ c ∈ digs n, dig c = true := by
  induction n using Nat.strongRecOn with
  | _ n ih =>
    intro c hc
    by_cases h : n < 10
    · rw [digs_lt h] at hc
      simp at hc; subst hc
      rw [dig_iff]; omega
    · rw [digs_ge h] at hc
      rcases List.mem_append.1 hc with hc | hc
      · exact ih _ (by omega) c hc
      · simp only [List.mem_singleton] at hc; subst hc
        rw [dig_iff]; omega
theorem val_digs (n : Nat) : val (digs n) = n := by
  induction n using Nat.strongRecOn with
  | _ n ih =>
    by_cases h : n < 10
    · rw [digs_lt h]; simp [val, valA]; omega
    · rw [digs_ge h, val, valA_app, show valA 0 (digs (n / 10)) = _ from ih (n / 10) (by omega)]
      simp only [valA, List.foldl_cons, List.foldl_nil]
      omega
theorem digs_head {n : Nat} (h : (digs n).head? = some 48) : (digs n).length = 1 := by
  induction n using Nat.strongRecOn with
  | _ n ih =>
    by_cases hn : n < 10
    · rw [digs_lt hn]; rfl
    · rw [digs_ge hn, List.head?_append] at h
      exfalso
      have hne := digs_ne (n / 10)
      obtain ⟨c, hc⟩ : ∃ c, (digs (n / 10)).head? = some c := by
        cases hd : digs (n / 10) with
        | nil => exact absurd hd hne
        | cons a l => exact ⟨a, rfl⟩
      rw [hc] at h
      simp at h; subst h
      have h1 := ih (n / 10) (by omega) hc
      have hv := val_digs (n / 10)
      match hd : digs (n / 10), h1 with
      | [x], _ =>
        rw [hd] at hc hv
        simp at hc; subst hc
        simp [val, valA] at hv
        omega

theorem valA_lt {l : Bs} (hl : ∀ c ∈ l, dig c = true) : ∀ a : Int, a ≤ valA a l ∨ a < 0 := by
  induction l with
  | nil => intro a; left; exact Int.le_refl _
  | cons c l ih =>
    intro a
    by_cases ha : a < 0
    · exact .inr ha
    · have hc := dig_iff.1 (hl c (by simp))
      rcases ih (fun x hx => hl x (by simp [hx])) (a * 10 + (c - 48)) with h | h
      · left; rw [valA_cons]; omega
      · omega
theorem val_nonneg {l : Bs} (hl : ∀ c ∈ l, dig c = true) : 0 ≤ val l := by
  rcases valA_lt hl 0 with h | h
  · exact h
  · omega

/-- Digits that do not begin with a 0 that is not alone are a number's. -/
theorem canon : ∀ (k : Nat) {l : Bs}, l.length = k → l ≠ [] → (∀ c ∈ l, dig c = true) → (1 < l.length → l.head? ≠ some 48) → l = digs (val l).toNat := by
  intro k
  induction k with
  | zero => intro l hk hne; exact absurd (List.length_eq_zero_iff.1 hk) hne
  | succ k ih =>
    intro l hk hne hd hz
    obtain ⟨m, c, rfl⟩ : ∃ m c, l = m ++ [c] := ⟨l.dropLast, l.getLast hne, (List.dropLast_concat_getLast hne).symm⟩
    have hc := dig_iff.1 (hd c (by simp))
    have hmd : ∀ x ∈ m, dig x = true := fun x hx => hd x (by simp [hx])
    have hv : val (m ++ [c]) = val m * 10 + (c - 48) := by rw [val, valA_app]; rfl
    cases m with
    | nil =>
      rw [hv]
      have : val ([] : Bs) = 0 := rfl
      rw [this, digs_lt (by omega)]
      simp; omega
    | cons x m =>
      have hx := dig_iff.1 (hmd x (by simp))
      have hz' : (x :: m).head? ≠ some 48 := by
        have := hz (by simp)
        simpa using this
      have hi := ih (l := x :: m) (by simp at hk; simp; omega) (by simp) hmd (fun _ => hz')
      have hpos : 1 ≤ val (x :: m) := by
        rw [val, valA_cons]
        have hx0 : x ≠ 48 := by simpa using hz'
        rcases valA_lt (l := m) (fun y hy => hmd y (List.mem_cons_of_mem _ hy)) (0 * 10 + (x - 48)) with h | h <;> omega
      rw [hv]
      rw [digs_ge (by omega), show (val (x :: m) * 10 + (c - 48)).toNat / 10 = (val (x :: m)).toNat by omega, ← hi]
      congr 2
      omega

theorem takeWhile_app {p : Int → Bool} {l m : Bs} (hl : ∀ c ∈ l, p c = true) (hm : ∀ c, m.head? = some c → p c = false) : (l ++ m).takeWhile p = l ∧ (l ++ m).dropWhile p = m := by
  induction l with
  | nil =>
    cases m with
    | nil => exact ⟨rfl, rfl⟩
    | cons c m =>
      have := hm c rfl
      simp [List.takeWhile_cons, List.dropWhile_cons, this]
  | cons x l ih =>
    have hx := hl x (by simp)
    have := ih fun c hc => hl c (by simp [hc])
    simp [List.takeWhile_cons, List.dropWhile_cons, hx, this.1, this.2]
theorem dropWhile_head {p : Int → Bool} (l : Bs) : ∀ c, (l.dropWhile p).head? = some c → p c = false := by
  induction l with
  | nil => intro c h; simp at h
  | cons x l ih =>
    intro c h
    rw [List.dropWhile_cons] at h
    split at h
    · exact ih c h
    · simp at h; subst h; simpa using ‹¬ p x = true›
theorem takeWhile_all {p : Int → Bool} (l : Bs) : ∀ c ∈ l.takeWhile p, p c = true := by
  induction l with
  | nil => intro c h; simp at h
  | cons x l ih =>
    intro c h
    rw [List.takeWhile_cons] at h
    split at h
    · rcases List.mem_cons.1 h with rfl | h
      · assumption
      · exact ih c h
    · simp at h

/-! ## What is read -/

/-- A number that is not above another. -/
def numS (most : Int) (r : Bs) : Option (Int × Bs) :=
  if r.takeWhile dig = [] ∨ most < val (r.takeWhile dig) ∨ (1 < (r.takeWhile dig).length ∧ r.head? = some 48) then none
  else some (val (r.takeWhile dig), r.dropWhile dig)

theorem numS_iff {most n : Int} {r r' : Bs} : numS most r = some (n, r') ↔ 0 ≤ n ∧ n ≤ most ∧ r = digs n.toNat ++ r' ∧ ∀ c, r'.head? = some c → dig c = false := by
  constructor
  · intro h
    unfold numS at h
    split at h
    · cases h
    · rename_i hn
      injection h with h
      injection h with h1 h2
      subst h1 h2
      have hne : r.takeWhile dig ≠ [] := fun e => hn (.inl e)
      refine ⟨val_nonneg (takeWhile_all r), by omega, ?_, dropWhile_head r⟩
      have hhead : (r.takeWhile dig).head? = r.head? := by
        cases r with
        | nil => rfl
        | cons c r =>
          rw [List.takeWhile_cons] at hne ⊢
          split
          · rfl
          · rename_i hc; rw [if_neg hc] at hne; exact absurd rfl hne
      rw [← canon _ rfl hne (takeWhile_all r) (fun hl hz => hn (.inr (.inr ⟨hl, hhead ▸ hz⟩)))]
      exact (List.takeWhile_append_dropWhile).symm
  · rintro ⟨h0, h1, rfl, h3⟩
    obtain ⟨e1, e2⟩ := takeWhile_app (digs_dig n.toNat) h3
    unfold numS
    rw [e1, e2, val_digs, if_neg]
    · rw [Int.toNat_of_nonneg h0]
    · rintro (h | h | ⟨h, hz⟩)
      · exact digs_ne _ h
      · omega
      · rw [List.head?_append] at hz
        cases hd : digs n.toNat with
        | nil => exact digs_ne _ hd
        | cons a l =>
          rw [hd] at hz
          have : (digs n.toNat).head? = some 48 := by rw [hd]; simpa using hz
          have := digs_head this
          omega

def up (c : Int) : Int := if 97 ≤ c ∧ c ≤ 122 then c - 32 else c

/-- Bytes that must be there, letters large or small. -/
def eatS (s r : Bs) : Option Bs := if (r.take s.length).map up = s then some (r.drop s.length) else none

theorem eatS_iff {s r r' : Bs} : eatS s r = some r' ↔ ∃ p, r = p ++ r' ∧ p.map up = s := by
  constructor
  · intro h
    unfold eatS at h
    split at h
    · rename_i e
      injection h with h
      exact ⟨r.take s.length, by rw [← h, List.take_append_drop], e⟩
    · cases h
  · rintro ⟨p, rfl, rfl⟩
    unfold eatS
    simp

theorem up_eq {c d : Int} (hd : d < 65 ∨ 122 < d) (h : up c = d) : c = d := by
  unfold up at h
  split at h <;> omega
theorem eat_plain : ∀ {s p : Bs}, (∀ d ∈ s, d < 65 ∨ 122 < d) → p.map up = s → p = s
  | [], p, _, h => by simpa using h
  | d :: s, [], _, h => by simp at h
  | d :: s, c :: p, hs, h => by
    simp at h
    rw [up_eq (hs d (by simp)) h.1, eat_plain (fun x hx => hs x (by simp [hx])) h.2]
theorem plain_up : ∀ {s : Bs}, (∀ d ∈ s, d < 97 ∨ 122 < d) → s.map up = s
  | [], _ => rfl
  | d :: s, hs => by
    have := hs d (by simp)
    rw [List.map_cons, plain_up fun x hx => hs x (by simp [hx]), up, if_neg (by omega)]
theorem eatP_iff {s r r' : Bs} (hs : ∀ d ∈ s, d < 65 ∨ 122 < d) : eatS s r = some r' ↔ r = s ++ r' := by
  rw [eatS_iff]
  constructor
  · rintro ⟨p, rfl, h⟩; rw [eat_plain hs h]
  · rintro rfl; exact ⟨s, rfl, plain_up fun d hd => by have := hs d hd; omega⟩

/-- Numbers of a byte each, with something between. -/
def accS (sep : Int) : Nat → Bs → Option (List Int × Bs)
  | 0, r => some ([], r)
  | i + 1, r => (accS sep i r).bind fun x => (if 0 < i then eatS [sep] x.2 else some x.2).bind fun r1 => (numS 255 r1).bind fun y => some (x.1 ++ [y.1], y.2)

def joinD (sep : Int) : List Int → Bs
  | [] => []
  | [n] => digs n.toNat
  | n :: m :: l => digs n.toNat ++ sep :: joinD sep (m :: l)

theorem joinD_snoc {sep : Int} : ∀ {l : List Int} {n : Int}, l ≠ [] → joinD sep (l ++ [n]) = joinD sep l ++ sep :: digs n.toNat
  | [], _, h => absurd rfl h
  | [m], n, _ => rfl
  | a :: b :: l, n, _ => by
    have := joinD_snoc (sep := sep) (l := b :: l) (n := n) (by simp)
    simp only [List.cons_append, joinD] at this ⊢
    rw [this]
    simp

def byt (l : List Int) : Prop := ∀ n ∈ l, 0 ≤ n ∧ n ≤ 255

theorem accS_iff {sep : Int} (hs : sep < 48) : ∀ {i : Nat} {r r' : Bs} {l : List Int}, accS sep i r = some (l, r') ↔ l.length = i ∧ byt l ∧ r = joinD sep l ++ r' ∧ (0 < i → ∀ c, r'.head? = some c → dig c = false) := by
  intro i
  induction i with
  | zero =>
    intro r r' l
    simp only [accS, Option.some.injEq, Prod.mk.injEq]
    constructor
    · rintro ⟨rfl, rfl⟩
      exact ⟨rfl, (fun n hn => by simp at hn), rfl, fun h => absurd h (Nat.lt_irrefl 0)⟩
    · rintro ⟨h1, _, h3, _⟩
      have : l = [] := List.length_eq_zero_iff.1 h1
      subst this
      exact ⟨rfl, by simpa [joinD] using h3⟩
  | succ i ih =>
    intro r r' l
    have hsep : ∀ d ∈ [sep], d < 65 ∨ 122 < d := by intro d hd; simp at hd; subst hd; omega
    constructor
    · intro h
      simp only [accS] at h
      obtain ⟨⟨l0, r0⟩, h1, h⟩ := Option.bind_eq_some_iff.1 h
      obtain ⟨r1, h2, h⟩ := Option.bind_eq_some_iff.1 h
      obtain ⟨⟨n, r2⟩, h3, h⟩ := Option.bind_eq_some_iff.1 h
      simp only [Option.some.injEq, Prod.mk.injEq] at h h2
      obtain ⟨rfl, rfl⟩ := h
      obtain ⟨a1, a2, a3, a4⟩ := ih.1 h1
      obtain ⟨b1, b2, b3, b4⟩ := numS_iff.1 h3
      refine ⟨by simp [a1], ?_, ?_, fun _ => b4⟩
      · intro x hx
        rcases List.mem_append.1 hx with hx | hx
        · exact a2 x hx
        · simp at hx; subst hx; exact ⟨b1, b2⟩
      · subst a1
        by_cases hl : l0 = []
        · subst hl
          simp at h2; subst h2
          simpa [joinD, a3] using b3
        · have hpos : 0 < l0.length := List.length_pos_iff.2 hl
          rw [if_pos hpos] at h2
          rw [eatP_iff hsep] at h2
          rw [joinD_snoc hl, a3, h2, b3]
          simp
    · rintro ⟨h1, h2, h3, h4⟩
      have hne : l ≠ [] := fun e => by subst e; simp at h1
      obtain ⟨m, n, rfl⟩ : ∃ m c, l = m ++ [c] := ⟨l.dropLast, l.getLast hne, (List.dropLast_concat_getLast hne).symm⟩
      have hml : m.length = i := by simpa using h1
      have hn := h2 n (by simp)
      have hd := h4 (by omega)
      have hnum : numS 255 (digs n.toNat ++ r') = some (n, r') := numS_iff.2 ⟨hn.1, hn.2, rfl, hd⟩
      have hm2 : byt m := fun x hx => h2 x (by simp [hx])
      subst hml
      simp only [accS]
      by_cases hm : m = []
      · subst hm
        have h3' : r = digs n.toNat ++ r' := by simpa [joinD] using h3
        rw [h3']
        simp [accS, hnum]
      · rw [joinD_snoc hm] at h3
        have := ih.2 ⟨rfl, hm2, (by rw [h3]; simp : r = joinD sep m ++ (sep :: digs n.toNat ++ r')), fun _ c hc => by
          simp at hc; subst hc
          cases hdd : dig sep with
          | false => rfl
          | true => have := dig_iff.1 hdd; omega⟩
        rw [this]
        have hpos : 0 < m.length := List.length_pos_iff.2 hm
        have he : eatS [sep] (sep :: digs n.toNat ++ r') = some (digs n.toNat ++ r') := (eatP_iff hsep).2 (by simp)
        simp only [Option.bind_some, if_pos hpos, he, hnum]

/-! ## Lines -/

structure Fd where
  kind : Int
  start : Int
  stop : Int
  addr : Int
  port : Int
  deriving DecidableEq

def clean (l : Bs) : Bool := l.all fun c => decide (c ≠ 13) && decide (c ≠ 10)

def lineS (l : Bs) : Option Bs := if 2 ≤ l.length ∧ l.length ≤ 128 ∧ l.drop (l.length - 2) = [13, 10] ∧ clean (l.take (l.length - 2)) = true then some (l.take (l.length - 2)) else none

theorem lineS_iff {l b : Bs} : lineS l = some b ↔ l = b ++ [13, 10] ∧ l.length ≤ 128 ∧ clean b = true := by
  constructor
  · intro h
    unfold lineS at h
    split at h
    · rename_i hc
      injection h with h
      subst h
      refine ⟨?_, hc.2.1, hc.2.2.2⟩
      conv => lhs; rw [← List.take_append_drop (l.length - 2) l, hc.2.2.1]
    · cases h
  · rintro ⟨rfl, h2, h3⟩
    unfold lineS
    have e : (b ++ [13, 10]).length - 2 = b.length := by simp
    rw [e]
    simp only [List.take_left', List.drop_left']
    rw [if_pos ⟨by simp, by simpa using h2, by simp, h3⟩]

def addrS (l : List Int) : Int := l.getD 0 0 * 16777216 + l.getD 1 0 * 65536 + l.getD 2 0 * 256 + l.getD 3 0
def portS (l : List Int) : Int := l.getD 4 0 * 256 + l.getD 5 0

def sixS (k : Int) (b r : Bs) : Option (Fd × Bs) :=
  (accS 44 6 r).bind fun x => if portS x.1 = 0 then none else some (⟨k, b.length - r.length, b.length - x.2.length, addrS x.1, portS x.1⟩, x.2)

def openS (r : Bs) : Option Bs := if (40 : Int) ∈ r then some (r.dropWhile fun c => decide (c ≠ 40)) else none

abbrev sPORT : Bs := [80, 79, 82, 84, 32]
abbrev sEPRT : Bs := [69, 80, 82, 84, 32]
abbrev s227 : Bs := [50, 50, 55, 32]
abbrev s229 : Bs := [50, 50, 57, 32]

def portL (b : Bs) (r : Bs) : Option Fd := (sixS 1 b r).bind fun x => if x.2 = [] then some x.1 else none
def eprtL (b : Bs) : Option Fd :=
  (eatS sEPRT b).bind fun r => (eatS [124, 49, 124] r).bind fun r1 => (accS 46 4 r1).bind fun x => (eatS [124] x.2).bind fun r3 => (numS 65535 r3).bind fun y =>
    if y.1 = 0 then none else (eatS [124] y.2).bind fun r5 => if r5 = [] then some ⟨2, 5, b.length, addrS x.1, y.1⟩ else none
def pasvL (b : Bs) (r : Bs) : Option Fd := (openS r).bind fun r1 => (eatS [40] r1).bind fun r2 => (sixS 3 b r2).bind fun x => (eatS [41] x.2).bind fun _ => some x.1
def epsvL (b : Bs) : Option Fd :=
  (eatS s229 b).bind fun r => (openS r).bind fun r1 => (eatS [40, 124, 124, 124] r1).bind fun r2 => (numS 65535 r2).bind fun y =>
    if y.1 = 0 then none else (eatS [124, 41] y.2).bind fun _ => some ⟨4, b.length - r2.length, b.length - y.2.length, 0, y.1⟩

def findB (b : Bs) (back : Bool) : Option Fd :=
  if back then (match eatS s227 b with | some r => pasvL b r | none => epsvL b)
  else (match eatS sPORT b with | some r => portL b r | none => eprtL b)
/-- What a line names. -/
def findS (l : Bs) (back : Bool) : Option Fd := (lineS l).bind fun b => findB b back

/-- The bytes that name an address and a port. -/
def fourS (a : Int) : List Int := [a / 16777216, a / 65536 % 256, a / 256 % 256, a % 256]
def textS (k a p : Int) : Bs :=
  if k = 1 ∨ k = 3 then joinD 44 (fourS a ++ [p / 256, p % 256])
  else if k = 2 then [124, 49, 124] ++ joinD 46 (fourS a) ++ [124] ++ digs p.toNat ++ [124]
  else if k = 4 then digs p.toNat
  else []

end Go.Proofs.YtphokckbcmiddaaDoor.Ftp

/- How a line that names something looks; what becomes of it when the name in it is replaced. -/
namespace Go.Proofs.YtphokckbcmiddaaDoor.Ftp

theorem clean_app {a b : Bs} : clean (a ++ b) = (clean a && clean b) := by simp [clean, List.all_append]
theorem clean_dig {l : Bs} (h : ∀ c ∈ l, dig c = true) : clean l = true := by
  unfold clean
  rw [List.all_eq_true]
  intro c hc
  have := dig_iff.1 (h c hc)
  simp; omega
theorem clean_digs (n : Nat) : clean (digs n) = true := clean_dig (digs_dig n)
theorem clean_cons {a : Int} {b : Bs} : clean (a :: b) = (decide (a ≠ 13) && decide (a ≠ 10) && clean b) := by simp [clean]

theorem clean_joinD {sep : Int} (hs : sep ≠ 13 ∧ sep ≠ 10) : ∀ l, clean (joinD sep l) = true
  | [] => rfl
  | [n] => clean_digs _
  | n :: m :: l => by
    rw [joinD, clean_app, clean_cons, clean_digs, clean_joinD hs (m :: l)]
    simp [hs]

theorem addr_four {l : List Int} (h : byt l) (hl : 4 ≤ l.length) : fourS (addrS l) = l.take 4 := by
  match l, hl with
  | a :: b :: c :: d :: l, _ =>
    have ha := h a (by simp)
    have hb := h b (by simp)
    have hc := h c (by simp)
    have hd := h d (by simp)
    simp only [fourS, addrS, List.getD_cons_zero, List.getD_cons_succ, List.take_succ_cons, List.take_zero]
    refine List.cons_eq_cons.2 ⟨by omega, List.cons_eq_cons.2 ⟨by omega, List.cons_eq_cons.2 ⟨by omega, List.cons_eq_cons.2 ⟨by omega, rfl⟩⟩⟩⟩
theorem four_byt {a : Int} (h0 : 0 ≤ a) (h1 : a < 4294967296) : byt (fourS a) := by
  intro n hn
  simp only [fourS, List.mem_cons, List.not_mem_nil, or_false] at hn
  omega
theorem addrS_four {a : Int} (h0 : 0 ≤ a) (h1 : a < 4294967296) (l : List Int) : addrS (fourS a ++ l) = a := by
  simp only [fourS, addrS, List.cons_append, List.getD_cons_zero, List.getD_cons_succ]
  omega
theorem addrS_bd {l : List Int} (h : byt l) (hl : 4 ≤ l.length) : 0 ≤ addrS l ∧ addrS l < 4294967296 := by
  match l, hl with
  | a :: b :: c :: d :: l, _ =>
    have ha := h a (by simp)
    have hb := h b (by simp)
    have hc := h c (by simp)
    have hd := h d (by simp)
    simp only [addrS, List.getD_cons_zero, List.getD_cons_succ]
    omega
theorem six_of {l : List Int} (h : byt l) (hl : l.length = 6) : l = fourS (addrS l) ++ [portS l / 256, portS l % 256] ∧ 0 ≤ portS l ∧ portS l ≤ 65535 := by
  rw [addr_four h (by omega)]
  match l, hl with
  | [a, b, c, d, e, f], _ =>
    have he := h e (by simp)
    have hf := h f (by simp)
    simp only [portS, List.getD_cons_zero, List.getD_cons_succ, List.take_succ_cons, List.take_zero, List.cons_append, List.nil_append]
    refine ⟨?_, by omega, by omega⟩
    rw [show (e * 256 + f) / 256 = e by omega, show (e * 256 + f) % 256 = f by omega]
theorem portS_six {a p : Int} : portS (fourS a ++ [p / 256, p % 256]) = p := by
  simp only [fourS, portS, List.cons_append, List.nil_append, List.getD_cons_zero, List.getD_cons_succ]
  omega
theorem six_byt {a p : Int} (h0 : 0 ≤ a) (h1 : a < 4294967296) (p0 : 0 ≤ p) (p1 : p ≤ 65535) : byt (fourS a ++ [p / 256, p % 256]) := by
  intro n hn
  rcases List.mem_append.1 hn with hn | hn
  · exact four_byt h0 h1 n hn
  · simp only [List.mem_cons, List.not_mem_nil, or_false] at hn
    omega

theorem textS_six {k a p : Int} (h : k = 1 ∨ k = 3) : textS k a p = joinD 44 (fourS a ++ [p / 256, p % 256]) := by
  unfold textS; rw [if_pos h]
theorem textS_2 {a p : Int} : textS 2 a p = [124, 49, 124] ++ joinD 46 (fourS a) ++ [124] ++ digs p.toNat ++ [124] := rfl
theorem textS_4 {a p : Int} : textS 4 a p = digs p.toNat := rfl
theorem clean_text (k a p : Int) : clean (textS k a p) = true := by
  unfold textS
  split
  · exact clean_joinD (by decide) _
  · split
    · simp only [clean_app, clean_cons, clean_digs, clean_joinD (show (46 : Int) ≠ 13 ∧ (46 : Int) ≠ 10 by decide)]
      rfl
    · split
      · exact clean_digs _
      · rfl

/-! ## What a six looks like -/

theorem sixS_iff {k : Int} (hk : k = 1 ∨ k = 3) {b r r' : Bs} {f : Fd} : sixS k b r = some (f, r') ↔
    ∃ a p : Int, f = ⟨k, b.length - r.length, b.length - r'.length, a, p⟩ ∧ 0 ≤ a ∧ a < 4294967296 ∧ 0 < p ∧ p ≤ 65535 ∧ r = textS k a p ++ r' ∧ ∀ c, r'.head? = some c → dig c = false := by
  unfold sixS
  constructor
  · intro h
    obtain ⟨⟨l, r1⟩, h1, h⟩ := Option.bind_eq_some_iff.1 h
    obtain ⟨a1, a2, a3, a4⟩ := (accS_iff (by decide)).1 h1
    simp only at h
    split at h
    · cases h
    · rename_i hp
      simp only [Option.some.injEq, Prod.mk.injEq] at h
      obtain ⟨rfl, rfl⟩ := h
      obtain ⟨e1, e2, e3⟩ := six_of a2 a1
      have := addrS_bd a2 (by omega)
      refine ⟨addrS l, portS l, rfl, this.1, this.2, by omega, e3, ?_, a4 (by decide)⟩
      rw [textS_six hk, ← e1]; exact a3
  · rintro ⟨a, p, rfl, h0, h1, h2, h3, h4, h5⟩
    rw [textS_six hk] at h4
    rw [(accS_iff (by decide)).2 ⟨by rfl, six_byt h0 h1 (by omega) h3, h4, fun _ => h5⟩]
    simp only [Option.bind_some, addrS_four h0 h1, portS_six]
    rw [if_neg (by omega)]

theorem dig_head {c : Int} {r : Bs} (h : dig c = false) : ∀ d, (c :: r).head? = some d → dig d = false := by
  intro d hd; simp at hd; subst hd; exact h

theorem portL_iff {b r : Bs} {f : Fd} (hr : ∃ p, b = p ++ r ∧ p.length = 5) : portL b r = some f ↔
    ∃ a p : Int, f = ⟨1, 5, b.length, a, p⟩ ∧ 0 ≤ a ∧ a < 4294967296 ∧ 0 < p ∧ p ≤ 65535 ∧ r = textS 1 a p := by
  obtain ⟨q, rfl, hq⟩ := hr
  have hlen : (((q ++ r).length : Nat) : Int) - r.length = 5 := by simp [hq]
  unfold portL
  constructor
  · intro h
    obtain ⟨⟨g, r'⟩, h1, h⟩ := Option.bind_eq_some_iff.1 h
    simp only at h
    split at h
    · rename_i hr
      injection h with h
      subst h hr
      obtain ⟨a, p, e, h0, h1, h2, h3, h4, _⟩ := (sixS_iff (.inl rfl)).1 h1
      exact ⟨a, p, by rw [e, hlen]; simp, h0, h1, h2, h3, by simpa using h4⟩
    · cases h
  · rintro ⟨a, p, rfl, h0, h1, h2, h3, h4⟩
    rw [(sixS_iff (k := 1) (r' := []) (f := ⟨1, 5, (q ++ r).length, a, p⟩) (.inl rfl)).2 ⟨a, p, by rw [hlen]; simp, h0, h1, h2, h3, by simpa using h4, fun c hc => by simp at hc⟩]
    rfl

theorem eprtL_iff {b : Bs} {f : Fd} : eprtL b = some f ↔
    ∃ (q : Bs) (a p : Int), q.map up = sEPRT ∧ f = ⟨2, 5, b.length, a, p⟩ ∧ 0 ≤ a ∧ a < 4294967296 ∧ 0 < p ∧ p ≤ 65535 ∧ b = q ++ textS 2 a p := by
  unfold eprtL
  constructor
  · intro h
    obtain ⟨r, h1, h⟩ := Option.bind_eq_some_iff.1 h
    obtain ⟨r1, h2, h⟩ := Option.bind_eq_some_iff.1 h
    obtain ⟨⟨l, r2⟩, h3, h⟩ := Option.bind_eq_some_iff.1 h
    obtain ⟨r3, h4, h⟩ := Option.bind_eq_some_iff.1 h
    obtain ⟨⟨p, r4⟩, h5, h⟩ := Option.bind_eq_some_iff.1 h
    simp only at h h4
    split at h
    · cases h
    rename_i hp
    obtain ⟨r5, h6, h⟩ := Option.bind_eq_some_iff.1 h
    split at h
    · rename_i hr
      have h := Option.some.inj h
      subst h
      subst hr
      obtain ⟨q, rfl, hq⟩ := eatS_iff.1 h1
      rw [eatP_iff (by decide)] at h2 h4 h6
      obtain ⟨a1, a2, a3, a4⟩ := (accS_iff (by decide)).1 h3
      obtain ⟨b1, b2, b3, b4⟩ := numS_iff.1 h5
      have hbd := addrS_bd a2 (by omega)
      refine ⟨q, addrS l, p, hq, rfl, hbd.1, hbd.2, by omega, b2, ?_⟩
      rw [textS_2, addr_four a2 (by omega), List.take_of_length_le (by omega), h2, a3, h4, b3, h6]
      simp
    · cases h
  · rintro ⟨q, a, p, hq, rfl, h0, h1, h2, h3, rfl⟩
    have e1 : eatS sEPRT (q ++ textS 2 a p) = some (textS 2 a p) := eatS_iff.2 ⟨q, rfl, hq⟩
    have e2 : eatS [124, 49, 124] (textS 2 a p) = some (joinD 46 (fourS a) ++ [124] ++ digs p.toNat ++ [124]) := (eatP_iff (by decide)).2 (by rw [textS_2]; simp)
    have e3 : accS 46 4 (joinD 46 (fourS a) ++ [124] ++ digs p.toNat ++ [124]) = some (fourS a, [124] ++ digs p.toNat ++ [124]) := (accS_iff (by decide)).2 ⟨rfl, four_byt h0 h1, by simp, fun _ => dig_head (by decide)⟩
    have e4 : eatS [124] ([124] ++ digs p.toNat ++ [124]) = some (digs p.toNat ++ [124]) := (eatP_iff (by decide)).2 (by simp)
    have e5 : numS 65535 (digs p.toNat ++ [124]) = some (p, [124]) := numS_iff.2 ⟨by omega, h3, rfl, dig_head (by decide)⟩
    have e6 : eatS [124] ([124] : Bs) = some [] := by decide
    have e7 : addrS (fourS a) = a := by simpa using addrS_four h0 h1 []
    simp only [e1, e2, e3, e4, e5, e6, e7, Option.bind_some, if_true]
    rw [if_neg (by omega)]

theorem openS_iff {r r1 : Bs} : openS r = some r1 ↔ ∃ x y, r = x ++ r1 ∧ (40 : Int) ∉ x ∧ r1 = 40 :: y := by
  unfold openS
  constructor
  · intro h
    split at h
    · rename_i hm
      injection h with h
      have hne : r1 ≠ [] := by
        intro e
        subst e
        have hall : ∀ c ∈ r, c ≠ 40 := by
          intro c hc
          have e := List.takeWhile_append_dropWhile (p := fun c => decide (c ≠ 40)) (l := r)
          rw [h, List.append_nil] at e
          rw [← e] at hc
          have := takeWhile_all (p := fun c => decide (c ≠ 40)) r c hc
          simpa using this
        exact hall 40 hm rfl
      cases r1 with
      | nil => exact absurd rfl hne
      | cons c y =>
        have hc := dropWhile_head (p := fun c => decide (c ≠ 40)) r c (by rw [h]; rfl)
        have hc : c = 40 := by simpa using hc
        subst hc
        refine ⟨r.takeWhile fun c => decide (c ≠ 40), y, ?_, ?_, rfl⟩
        · rw [← h]; exact List.takeWhile_append_dropWhile.symm
        · intro hm
          have := takeWhile_all (p := fun c => decide (c ≠ 40)) r 40 hm
          simp at this
    · cases h
  · rintro ⟨x, y, rfl, hx, rfl⟩
    rw [if_pos (by simp)]
    have := (takeWhile_app (p := fun c => decide (c ≠ 40)) (l := x) (m := 40 :: y) (fun c hc => by
      have : c ≠ 40 := fun e => hx (e ▸ hc)
      simpa using this) (fun c hc => by simp at hc; subst hc; simp)).2
    rw [this]

theorem pasvL_iff {b r : Bs} {f : Fd} (hr : ∃ p, b = p ++ r ∧ p.length = 4) : pasvL b r = some f ↔
    ∃ (x y : Bs) (a p : Int), (40 : Int) ∉ x ∧ f = ⟨3, 5 + x.length, 5 + x.length + (textS 3 a p).length, a, p⟩ ∧ 0 ≤ a ∧ a < 4294967296 ∧ 0 < p ∧ p ≤ 65535 ∧ r = x ++ 40 :: (textS 3 a p ++ 41 :: y) := by
  obtain ⟨q, rfl, hq⟩ := hr
  unfold pasvL
  constructor
  · intro h
    obtain ⟨r1, h1, h⟩ := Option.bind_eq_some_iff.1 h
    obtain ⟨r2, h2, h⟩ := Option.bind_eq_some_iff.1 h
    obtain ⟨⟨g, r3⟩, h3, h⟩ := Option.bind_eq_some_iff.1 h
    obtain ⟨r4, h4, h⟩ := Option.bind_eq_some_iff.1 h
    simp only [Option.some.injEq] at h h4
    subst h
    obtain ⟨x, y, rfl, hx, rfl⟩ := openS_iff.1 h1
    rw [eatP_iff (by decide)] at h2 h4
    simp only [List.cons_append, List.nil_append, List.cons.injEq, true_and] at h2 h4
    subst h2 h4
    obtain ⟨a, p, e, h0, h1', h2, h3', h4, _⟩ := (sixS_iff (.inr rfl)).1 h3
    refine ⟨x, r4, a, p, hx, ?_, h0, h1', h2, h3', by rw [h4]⟩
    rw [e, h4]
    simp only [List.length_append, List.length_cons, Fd.mk.injEq, true_and, and_true]
    omega
  · rintro ⟨x, y, a, p, hx, rfl, h0, h1, h2, h3, rfl⟩
    have e1 : openS (x ++ 40 :: (textS 3 a p ++ 41 :: y)) = some (40 :: (textS 3 a p ++ 41 :: y)) := openS_iff.2 ⟨x, _, rfl, hx, rfl⟩
    have e2 : eatS [40] (40 :: (textS 3 a p ++ 41 :: y)) = some (textS 3 a p ++ 41 :: y) := (eatP_iff (by decide)).2 (by simp)
    have e3 : sixS 3 (q ++ (x ++ 40 :: (textS 3 a p ++ 41 :: y))) (textS 3 a p ++ 41 :: y) = some (⟨3, 5 + x.length, 5 + x.length + (textS 3 a p).length, a, p⟩, 41 :: y) := by
      refine (sixS_iff (.inr rfl)).2 ⟨a, p, ?_, h0, h1, h2, h3, rfl, dig_head (by decide)⟩
      simp only [List.length_append, List.length_cons, Fd.mk.injEq, true_and, and_true, hq]
      omega
    have e4 : eatS [41] (41 :: y) = some y := (eatP_iff (by decide)).2 (by simp)
    simp only [e1, e2, e3, e4, Option.bind_some]

theorem epsvL_iff {b : Bs} {f : Fd} : epsvL b = some f ↔
    ∃ (x y : Bs) (p : Int), (40 : Int) ∉ x ∧ f = ⟨4, 8 + x.length, 8 + x.length + (textS 4 0 p).length, 0, p⟩ ∧ 0 < p ∧ p ≤ 65535 ∧ b = s229 ++ x ++ [40, 124, 124, 124] ++ (textS 4 0 p ++ 124 :: 41 :: y) := by
  unfold epsvL
  constructor
  · intro h
    obtain ⟨r, h1, h⟩ := Option.bind_eq_some_iff.1 h
    obtain ⟨r1, h2, h⟩ := Option.bind_eq_some_iff.1 h
    obtain ⟨r2, h3, h⟩ := Option.bind_eq_some_iff.1 h
    obtain ⟨⟨p, r3⟩, h4, h⟩ := Option.bind_eq_some_iff.1 h
    simp only at h
    split at h
    · cases h
    rename_i hp
    obtain ⟨y, h5, h⟩ := Option.bind_eq_some_iff.1 h
    injection h with h
    subst h
    rw [eatP_iff (by decide)] at h1 h3 h5
    obtain ⟨x, z, rfl, hx, rfl⟩ := openS_iff.1 h2
    simp only [List.cons_append, List.nil_append, List.cons.injEq, true_and] at h3
    subst h3 h1 h5
    obtain ⟨b1, b2, b3, b4⟩ := numS_iff.1 h4
    refine ⟨x, y, p, hx, ?_, by omega, b2, ?_⟩
    · rw [b3, textS_4]
      simp only [List.length_append, List.length_cons, Fd.mk.injEq, true_and, and_true, List.length_nil]
      omega
    · rw [b3, textS_4]; simp
  · rintro ⟨x, y, p, hx, rfl, h2, h3, rfl⟩
    rw [textS_4]
    have e1 : eatS s229 (s229 ++ x ++ [40, 124, 124, 124] ++ (digs p.toNat ++ 124 :: 41 :: y)) = some (x ++ [40, 124, 124, 124] ++ (digs p.toNat ++ 124 :: 41 :: y)) := (eatP_iff (by decide)).2 (by simp)
    have e2 : openS (x ++ [40, 124, 124, 124] ++ (digs p.toNat ++ 124 :: 41 :: y)) = some ([40, 124, 124, 124] ++ (digs p.toNat ++ 124 :: 41 :: y)) := openS_iff.2 ⟨x, _, by simp, hx, rfl⟩
    have e3 : eatS [40, 124, 124, 124] ([40, 124, 124, 124] ++ (digs p.toNat ++ 124 :: 41 :: y)) = some (digs p.toNat ++ 124 :: 41 :: y) := (eatP_iff (by decide)).2 (by simp)
    have e4 : numS 65535 (digs p.toNat ++ 124 :: 41 :: y) = some (p, 124 :: 41 :: y) := numS_iff.2 ⟨by omega, h3, rfl, dig_head (by decide)⟩
    have e5 : eatS [124, 41] (124 :: 41 :: y) = some y := (eatP_iff (by decide)).2 (by simp)
    simp only [e1, e2, e3, e4, e5, Option.bind_some]
    rw [if_neg (by omega)]
    simp only [List.length_append, List.length_cons, List.length_nil, Option.some.injEq, Fd.mk.injEq, true_and, and_true]
    omega

/-! ## What a line that names something looks like -/

/-- What stands ahead of the name, and behind it. -/
def Ahead (k : Int) (back : Bool) (pre : Bs) : Prop :=
  (k = 1 ∧ back = false ∧ pre.map up = sPORT) ∨ (k = 2 ∧ back = false ∧ pre.map up = sEPRT) ∨
  (k = 3 ∧ back = true ∧ ∃ x, pre = s227 ++ x ++ [40] ∧ (40 : Int) ∉ x ∧ clean x = true) ∨ (k = 4 ∧ back = true ∧ ∃ x, pre = s229 ++ x ++ [40, 124, 124, 124] ∧ (40 : Int) ∉ x ∧ clean x = true)
def Behind (k : Int) (post : Bs) : Prop :=
  ((k = 1 ∨ k = 2) ∧ post = [13, 10]) ∨ (k = 3 ∧ ∃ y, post = 41 :: y ++ [13, 10] ∧ clean y = true) ∨ (k = 4 ∧ ∃ y, post = 124 :: 41 :: y ++ [13, 10] ∧ clean y = true)

structure Fits (l : Bs) (back : Bool) (f : Fd) (pre post : Bs) : Prop where
  eq : l = pre ++ textS f.kind f.addr f.port ++ post
  ahead : Ahead f.kind back pre
  behind : Behind f.kind post
  short : l.length ≤ 128
  port0 : 0 < f.port
  port1 : f.port ≤ 65535
  addr0 : 0 ≤ f.addr
  addr1 : f.addr < 4294967296
  none4 : f.kind = 4 → f.addr = 0
  start : f.start = pre.length
  stop : f.stop = pre.length + (textS f.kind f.addr f.port).length

theorem up_clean {q s : Bs} (h : q.map up = s) (hs : clean s = true) : clean q = true := by
  unfold clean at hs ⊢
  rw [List.all_eq_true] at hs ⊢
  intro c hc
  have := hs (up c) (by rw [← h]; exact List.mem_map_of_mem hc)
  unfold up at this
  split at this <;> simp at this ⊢ <;> omega
theorem map_len {q s : Bs} (h : q.map up = s) : q.length = s.length := by rw [← h]; simp

theorem findS_iff {l : Bs} {back : Bool} {f : Fd} : findS l back = some f ↔ ∃ pre post, Fits l back f pre post := by
  unfold findS
  constructor
  · intro h
    obtain ⟨b, h1, h2⟩ := Option.bind_eq_some_iff.1 h
    clear h
    obtain ⟨rfl, hlen, hcl⟩ := lineS_iff.1 h1
    have h : findB b back = some f := h2
    clear h2 h1
    unfold findB at h
    cases back with
    | false =>
      simp only [Bool.false_eq_true, if_false] at h
      split at h
      · rename_i r hr
        obtain ⟨q, rfl, hq⟩ := eatS_iff.1 hr
        obtain ⟨a, p, rfl, h0, h1, h2, h3, rfl⟩ := (portL_iff ⟨q, rfl, map_len hq⟩).1 h
        exact ⟨q, [13, 10], rfl, .inl ⟨rfl, rfl, hq⟩, .inl ⟨.inl rfl, rfl⟩, hlen, h2, h3, h0, h1, (fun e => by cases e), by rw [map_len hq]; rfl, by simp⟩
      · obtain ⟨q, a, p, hq, rfl, h0, h1, h2, h3, rfl⟩ := eprtL_iff.1 h
        exact ⟨q, [13, 10], rfl, .inr (.inl ⟨rfl, rfl, hq⟩), .inl ⟨.inr rfl, rfl⟩, hlen, h2, h3, h0, h1, (fun e => by cases e), by rw [map_len hq]; rfl, by simp⟩
    | true =>
      simp only [if_true] at h
      split at h
      · rename_i r hr
        rw [eatP_iff (by decide)] at hr
        subst hr
        obtain ⟨x, y, a, p, hx, rfl, h0, h1, h2, h3, rfl⟩ := (pasvL_iff ⟨s227, rfl, rfl⟩).1 h
        simp only [clean_app, clean_cons, Bool.and_eq_true] at hcl
        refine ⟨s227 ++ x ++ [40], 41 :: y ++ [13, 10], by simp, .inr (.inr (.inl ⟨rfl, rfl, x, rfl, hx, hcl.2.1⟩)), .inr (.inl ⟨rfl, y, rfl, hcl.2.2.2.2.2⟩), hlen, h2, h3, h0, h1, (fun e => by cases e), ?_, ?_⟩
        · simp; omega
        · simp; omega
      · obtain ⟨x, y, p, hx, rfl, h2, h3, rfl⟩ := epsvL_iff.1 h
        simp only [clean_app, clean_cons, Bool.and_eq_true] at hcl
        refine ⟨s229 ++ x ++ [40, 124, 124, 124], 124 :: 41 :: y ++ [13, 10], by simp, .inr (.inr (.inr ⟨rfl, rfl, x, rfl, hx, hcl.1.1.2⟩)), .inr (.inr ⟨rfl, y, rfl, hcl.2.2.2.2⟩), hlen, h2, h3, Int.le_refl 0, (show (0 : Int) < 4294967296 by decide), (fun _ => rfl), ?_, ?_⟩
        · simp; omega
        · simp; omega
  · rintro ⟨pre, post, heq, ha, hb, hlen, p0, p1, a0, a1, hn4, hst, hsp⟩
    obtain ⟨k, st, sp, a, p⟩ := f
    simp only at heq ha hb p0 p1 a0 a1 hst hsp hn4
    rcases ha with ⟨rfl, rfl, hq⟩ | ⟨rfl, rfl, hq⟩ | ⟨rfl, rfl, x, rfl, hx, hxc⟩ | ⟨rfl, rfl, x, rfl, hx, hxc⟩
    · obtain ⟨_, rfl⟩ | ⟨h, _⟩ | ⟨h, _⟩ := hb
      rotate_left
      · cases h
      · cases h
      have hl : lineS l = some (pre ++ textS 1 a p) := lineS_iff.2 ⟨heq, hlen, by rw [clean_app, up_clean hq (by decide), clean_text]; rfl⟩
      rw [hl, Option.bind_some]
      unfold findB
      simp only [Bool.false_eq_true, if_false, eatS_iff.2 ⟨pre, rfl, hq⟩]
      refine (portL_iff ⟨pre, rfl, map_len hq⟩).2 ⟨a, p, ?_, a0, a1, p0, p1, rfl⟩
      rw [hst, hsp, map_len hq]
      simp [map_len hq]
    · obtain ⟨_, rfl⟩ | ⟨h, _⟩ | ⟨h, _⟩ := hb
      rotate_left
      · cases h
      · cases h
      have hl : lineS l = some (pre ++ textS 2 a p) := lineS_iff.2 ⟨heq, hlen, by rw [clean_app, up_clean hq (by decide), clean_text]; rfl⟩
      rw [hl, Option.bind_some]
      unfold findB
      have hno : eatS sPORT (pre ++ textS 2 a p) = none := by
        unfold eatS
        rw [if_neg]
        have e5 : pre.length = 5 := map_len hq
        rw [show sPORT.length = pre.length from e5.symm, List.take_left', hq]
        decide
        rfl
      simp only [Bool.false_eq_true, if_false, hno]
      refine eprtL_iff.2 ⟨pre, a, p, hq, ?_, a0, a1, p0, p1, rfl⟩
      rw [hst, hsp, map_len hq]
      simp [map_len hq]
    · obtain ⟨h | h, _⟩ | ⟨_, y, rfl, hy⟩ | ⟨h, _⟩ := hb
      · cases h
      · cases h
      rotate_left
      · cases h
      have hl : lineS l = some (s227 ++ (x ++ 40 :: (textS 3 a p ++ 41 :: y))) := lineS_iff.2 ⟨by rw [heq]; simp, hlen, by
        simp only [clean_app, clean_cons, hxc, hy, clean_text]; rfl⟩
      rw [hl, Option.bind_some]
      unfold findB
      simp only [if_true, (eatP_iff (s := s227) (by decide)).2 rfl]
      refine (pasvL_iff ⟨s227, rfl, rfl⟩).2 ⟨x, y, a, p, hx, ?_, a0, a1, p0, p1, rfl⟩
      rw [hst, hsp]
      simp only [List.length_append, List.length_cons, List.length_nil, Fd.mk.injEq, true_and, and_true]
      omega
    · obtain ⟨h | h, _⟩ | ⟨h, _⟩ | ⟨_, y, rfl, hy⟩ := hb
      · cases h
      · cases h
      · cases h
      have : a = 0 := hn4 rfl
      subst this
      have hl : lineS l = some (s229 ++ x ++ [40, 124, 124, 124] ++ (textS 4 0 p ++ 124 :: 41 :: y)) := lineS_iff.2 ⟨by rw [heq]; simp, hlen, by
        simp only [clean_app, clean_cons, hxc, hy, clean_text]; rfl⟩
      rw [hl, Option.bind_some]
      unfold findB
      have hno : eatS s227 (s229 ++ x ++ [40, 124, 124, 124] ++ (textS 4 0 p ++ 124 :: 41 :: y)) = none := by
        unfold eatS
        rw [if_neg]
        show List.map up (List.take 4 (50 :: 50 :: 57 :: 32 :: _)) ≠ _
        simp [List.take, up]
      simp only [if_true, hno]
      refine epsvL_iff.2 ⟨x, y, p, hx, ?_, p0, p1, rfl⟩
      rw [hst, hsp]
      simp only [List.length_append, List.length_cons, List.length_nil, Fd.mk.injEq, true_and, and_true]
      omega

end Go.Proofs.YtphokckbcmiddaaDoor.Ftp

/- The laws of lines, of lists of bytes. -/
namespace Go.Proofs.YtphokckbcmiddaaDoor.Ftp

/-- Other bytes in a place. -/
def replS (l : Bs) (s e : Int) (t : Bs) : Bs := if s < 0 ∨ e < s ∨ (l.length : Int) < e then l else l.take s.toNat ++ t ++ l.drop e.toNat

theorem Fits.cut {l : Bs} {back : Bool} {f : Fd} {pre post : Bs} (h : Fits l back f pre post) : l.take f.start.toNat = pre ∧ l.drop f.stop.toNat = post ∧ 0 ≤ f.start ∧ f.start ≤ f.stop ∧ f.stop ≤ l.length ∧ (l.drop f.start.toNat).take (f.stop.toNat - f.start.toNat) = textS f.kind f.addr f.port := by
  have e1 : f.start.toNat = pre.length := by rw [h.start]; omega
  have e2 : f.stop.toNat = (pre ++ textS f.kind f.addr f.port).length := by rw [h.stop, List.length_append]; omega
  have hl : l.length = pre.length + (textS f.kind f.addr f.port).length + post.length := by rw [h.eq, List.length_append, List.length_append]
  refine ⟨?_, ?_, by rw [h.start]; omega, by rw [h.start, h.stop]; omega, by rw [h.stop, hl]; omega, ?_⟩
  · rw [e1]; conv => lhs; rw [h.eq, List.append_assoc]
    exact List.take_left
  · rw [e2]; conv => lhs; rw [h.eq]
    exact List.drop_left
  · rw [e1, e2]; conv => lhs; rw [h.eq, List.append_assoc]
    rw [List.drop_left, List.length_append, Nat.add_sub_cancel_left, List.take_left]
theorem Fits.repl {l : Bs} {back : Bool} {f : Fd} {pre post : Bs} (h : Fits l back f pre post) (t : Bs) : replS l f.start f.stop t = pre ++ t ++ post := by
  obtain ⟨h1, h2, h3, h4, h5, _⟩ := h.cut
  unfold replS
  rw [if_neg (by omega), h1, h2]

theorem find_back {l : Bs} {back : Bool} {f : Fd} (h : findS l back = some f) {a p : Int} (a0 : 0 ≤ a) (a1 : a < 4294967296) (p0 : 0 < p) (p1 : p ≤ 65535) (c : Bs) (hc : c = replS l f.start f.stop (textS f.kind a p)) :
    if c.length ≤ 128 then findS c back = some ⟨f.kind, f.start, f.start + (textS f.kind a p).length, if f.kind = 4 then 0 else a, p⟩ ∧ ((textS f.kind a p).length : Int) = c.length - l.length + f.stop - f.start else findS c back = none := by
  obtain ⟨pre, post, h⟩ := findS_iff.1 h
  rw [h.repl] at hc
  have hsub : textS f.kind (if f.kind = 4 then 0 else a) p = textS f.kind a p := by
    split
    · rename_i h4; rw [h4]; rfl
    · rfl
  split
  · rename_i hs
    refine ⟨findS_iff.2 ⟨pre, post, ?_, h.ahead, h.behind, hs, p0, p1, ?_, ?_, fun e => if_pos e, h.start, ?_⟩, ?_⟩
    · rw [hc]; simp only [hsub]
    · dsimp only; split <;> omega
    · dsimp only; split <;> omega
    · simp only [hsub, h.start]
    · rw [hc, h.start, h.stop]
      have := congrArg List.length h.eq
      simp only [List.length_append] at this ⊢
      omega
  · rename_i hs
    cases hf : findS c back with
    | none => rfl
    | some g =>
      obtain ⟨_, _, hg⟩ := findS_iff.1 hf
      exact absurd hg.short hs

theorem find_self {l : Bs} {back : Bool} {f : Fd} (h : findS l back = some f) : replS l f.start f.stop (textS f.kind f.addr f.port) = l ∧ replS l f.start f.stop ((l.drop f.start.toNat).take (f.stop.toNat - f.start.toNat)) = l ∧ 0 < f.port ∧ 0 ≤ f.start ∧ f.start ≤ f.stop ∧ f.stop ≤ l.length := by
  obtain ⟨pre, post, h⟩ := findS_iff.1 h
  obtain ⟨_, _, h3, h4, h5, h6⟩ := h.cut
  rw [h6, h.repl]
  exact ⟨h.eq.symm, h.eq.symm, h.port0, h3, h4, h5⟩

theorem find_line {l : Bs} {back : Bool} {f : Fd} (h : findS l back = some f) : ∃ b, l = b ++ [13, 10] ∧ l.length ≤ 128 ∧ clean b = true ∧ ∃ c r, b = c :: r ∧ (if back then c = 50 else up c = 80 ∨ up c = 69) := by
  obtain ⟨pre, post, h⟩ := findS_iff.1 h
  have ⟨b, hb1, hb2⟩ : ∃ b, lineS l = some b ∧ findB b back = some f := Option.bind_eq_some_iff.1 (findS_iff.2 ⟨pre, post, h⟩)
  obtain ⟨hb, h128, hcl⟩ := lineS_iff.1 hb1
  refine ⟨b, hb, h128, hcl, ?_⟩
  have hpre : ∃ c r, pre = c :: r ∧ (if back then c = 50 else up c = 80 ∨ up c = 69) := by
    rcases h.ahead with ⟨_, rfl, hq⟩ | ⟨_, rfl, hq⟩ | ⟨_, rfl, x, rfl, _⟩ | ⟨_, rfl, x, rfl, _⟩
    · cases pre with
      | nil => cases hq
      | cons c r => exact ⟨c, r, rfl, .inl (by simp at hq; exact hq.1)⟩
    · cases pre with
      | nil => cases hq
      | cons c r => exact ⟨c, r, rfl, .inr (by simp at hq; exact hq.1)⟩
    · exact ⟨50, _, rfl, rfl⟩
    · exact ⟨50, _, rfl, rfl⟩
  obtain ⟨c, r, hp, hc⟩ := hpre
  have e := h.eq
  rw [hp, hb] at e
  cases b with
  | nil =>
    exfalso
    simp at e
    have e1 := e.1
    subst e1
    cases back with
    | true => simp at hc
    | false => simp [up] at hc
  | cons d b =>
    simp at e
    exact ⟨d, b, rfl, by rw [e.1]; exact hc⟩

theorem clean_mem {l : Bs} (h : (13 : Int) ∈ l ∨ (10 : Int) ∈ l) : clean l = false := by
  cases hc : clean l with
  | false => rfl
  | true =>
    unfold clean at hc
    rw [List.all_eq_true] at hc
    rcases h with h | h
    · have := hc _ h; simp at this
    · have := hc _ h; simp at this

theorem find_lines {l : Bs} {back : Bool} {f : Fd} (h : findS l back = some f) :
    findS (l.take (l.length - 1)) back = none ∧ findS (l ++ l) back = none ∧ findS ([13, 10] ++ l) back = none ∧ findS (32 :: l) back = none ∧ findS l (!back) = none ∧ 1 ≤ l.length ∧ l.length ≤ 128 := by
  obtain ⟨b, hl, h128, hcl, c, r, hb, hc⟩ := find_line h
  have none_of : ∀ (m : Bs) (bk : Bool), (∀ b', m = b' ++ [13, 10] → clean b' = true → ∀ c r, b' = c :: r → ¬ (if bk then c = 50 else up c = 80 ∨ up c = 69)) → findS m bk = none := by
    intro m bk hm
    cases hf : findS m bk with
    | none => rfl
    | some g =>
      obtain ⟨b', e1, _, e2, c', r', e3, e4⟩ := find_line hf
      exact absurd e4 (hm b' e1 e2 c' r' e3)
  refine ⟨?_, ?_, ?_, ?_, ?_, by rw [hl]; simp, h128⟩
  · refine none_of _ _ fun b' e _ c' r' _ => ?_
    exfalso
    rw [hl] at e
    rw [show (b ++ [13, 10] : Bs).length - 1 = (b ++ [13]).length by simp, show (b ++ [13, 10] : Bs) = (b ++ [13]) ++ [10] by simp, List.take_left] at e
    have := congrArg List.getLast? e
    simp at this
  · refine none_of _ _ fun b' e hcl' c' r' _ => ?_
    exfalso
    rw [hl, ← List.append_assoc] at e
    have := (List.append_inj' e rfl).1
    rw [← this, clean_mem (by simp)] at hcl'
    cases hcl'
  · refine none_of _ _ fun b' e hcl' c' r' _ => ?_
    exfalso
    rw [hl, ← List.append_assoc] at e
    have := (List.append_inj' e rfl).1
    rw [← this, clean_mem (by simp)] at hcl'
    cases hcl'
  · refine none_of _ _ fun b' e _ c' r' e2 => ?_
    rw [hl, e2] at e
    simp at e
    rw [← e.1]
    cases back <;> simp [up]
  · refine none_of _ _ fun b' e _ c' r' e2 => ?_
    rw [hl, e2, hb] at e
    simp at e
    rw [← e.1]
    cases back with
    | false =>
      simp at hc ⊢
      intro h50
      subst h50
      simp [up] at hc
    | true =>
      simp at hc ⊢
      subst hc
      simp [up]

/-- A line that is made of a text. -/
theorem find_made {k a p : Int} {back : Bool} {pre post l : Bs} (hl : l = pre ++ textS k a p ++ post) (ha : Ahead k back pre) (hb : Behind k post) (hs : l.length ≤ 128) (a0 : 0 ≤ a) (a1 : a < 4294967296) (p0 : 0 < p) (p1 : p ≤ 65535) :
    findS l back = some ⟨k, pre.length, pre.length + (textS k a p).length, if k = 4 then 0 else a, p⟩ := by
  have hsub : textS k (if k = 4 then 0 else a) p = textS k a p := by
    split
    · rename_i h4; rw [h4]; rfl
    · rfl
  refine findS_iff.2 ⟨pre, post, ?_, ha, hb, hs, p0, p1, ?_, ?_, fun e => if_pos e, rfl, ?_⟩
  · simp only [hsub]; exact hl
  · dsimp only; split <;> omega
  · dsimp only; split <;> omega
  · simp only [hsub]

theorem digs_len : ∀ (k n : Nat), n < 10 ^ (k + 1) → (digs n).length ≤ k + 1
  | 0, n, h => by rw [digs_lt (by simpa using h)]; simp
  | k + 1, n, h => by
    by_cases hn : n < 10
    · rw [digs_lt hn]; simp
    · rw [digs_ge hn, List.length_append]
      have := digs_len k (n / 10) (by rw [Nat.div_lt_iff_lt_mul (by decide)]; rw [Nat.pow_succ] at h; exact h)
      simp; omega
theorem joinD_len {sep : Int} : ∀ {l : List Int}, byt l → (joinD sep l).length ≤ 4 * l.length
  | [], _ => by simp [joinD]
  | [n], h => by
    have := h n (by simp)
    have := digs_len 2 n.toNat (by omega)
    simp only [joinD, List.length_cons, List.length_nil]; omega
  | n :: m :: l, h => by
    have := h n (by simp)
    have h1 := digs_len 2 n.toNat (by omega)
    have h2 := joinD_len (sep := sep) (l := m :: l) fun x hx => h x (by simp only [List.mem_cons] at hx ⊢; exact .inr hx)
    simp only [joinD, List.length_append, List.length_cons] at h2 ⊢
    omega
theorem text_len {k a p : Int} (a0 : 0 ≤ a) (a1 : a < 4294967296) (p0 : 0 ≤ p) (p1 : p ≤ 65535) : (textS k a p).length ≤ 30 := by
  have hp := digs_len 4 p.toNat (by omega)
  unfold textS
  split
  · have := joinD_len (sep := 44) (six_byt a0 a1 p0 p1)
    simp only [fourS, List.length_append, List.length_cons, List.length_nil] at this ⊢
    omega
  · split
    · have := joinD_len (sep := 46) (four_byt a0 a1)
      simp only [fourS, List.length_append, List.length_cons, List.length_nil] at this ⊢
      omega
    · split
      · omega
      · simp

/-- A line with the port 0 names nothing. -/
theorem find_zero {a : Int} (a0 : 0 ≤ a) (a1 : a < 4294967296) : findS (sPORT ++ textS 1 a 0 ++ [13, 10]) false = none := by
  cases hf : findS (sPORT ++ textS 1 a 0 ++ [13, 10]) false with
  | none => rfl
  | some f =>
    exfalso
    unfold findS at hf
    obtain ⟨b, h1, h2⟩ := Option.bind_eq_some_iff.1 hf
    obtain ⟨hb, _, _⟩ := lineS_iff.1 h1
    have hb := (List.append_inj' hb rfl).1
    subst hb
    have e1 : eatS sPORT (sPORT ++ textS 1 a 0) = some (textS 1 a 0) := eatS_iff.2 ⟨sPORT, rfl, by decide⟩
    have h2 : portL (sPORT ++ textS 1 a 0) (textS 1 a 0) = some f := by
      have h3 : findB (sPORT ++ textS 1 a 0) false = some f := h2
      unfold findB at h3
      simpa only [Bool.false_eq_true, if_false, e1] using h3
    unfold portL sixS at h2
    rw [textS_six (.inl rfl), (accS_iff (r := joinD 44 (fourS a ++ [0 / 256, 0 % 256])) (r' := []) (l := fourS a ++ [0 / 256, 0 % 256]) (by decide)).2 ⟨by rfl, six_byt a0 a1 (by decide) (by decide), by simp, fun _ c hc => by simp at hc⟩] at h2
    have e2 : portS (fourS a ++ [0, 0]) = 0 := portS_six (a := a) (p := 0)
    simp [e2] at h2

end Go.Proofs.YtphokckbcmiddaaDoor.Ftp
