/- Structs of the package, as Lean structures. -/
import Derived.Test.YtcibkmahibnjeaaFj
import Derived.Test.YtcibkmahibnjeaaFn
namespace Go.Proofs.Ytcibkmahibnjeaa
open Go Go.Ev
open Go.Proofs
/-! ### Tup: type 37 -/
structure Tup where
  proto : Int
  src : Int
  dst : Int
  srcPort : Int
  dstPort : Int
  deriving DecidableEq
def Tup.cs (x : Tup) : List Value := [.int .u8 x.proto] ++ [.int .u32 x.src] ++ [.int .u32 x.dst] ++ [.int .u16 x.srcPort] ++ [.int .u16 x.dstPort]
def Tup.v (x : Tup) : Value := .agg x.cs.toArray
def Tup.ok (x : Tup) : Prop := (Lit.int .u8 x.proto).wf = true ∧ (Lit.int .u32 x.src).wf = true ∧ (Lit.int .u32 x.dst).wf = true ∧ (Lit.int .u16 x.srcPort).wf = true ∧ (Lit.int .u16 x.dstPort).wf = true
def Tup.zero : Tup := ⟨0, 0, 0, 0, 0⟩
theorem Tup.len (x : Tup) : x.cs.length = 5 := rfl
theorem zero37 (w : World) : (zeroValue 37).run Try.prog w = .ok Tup.zero.v w := by kernel_rfl
theorem inf37 : ∃ i, Try.prog.info? 37 = some i ∧ i.size = 5 := ⟨(Try.prog.info? 37).get (by kernel_rfl), by kernel_rfl, by kernel_rfl⟩
@[go_sem] theorem fa37x0 (g o : Nat) : QfieldAddr Try.prog 37 (.pointer (some ⟨g, o, none⟩)) 0 = some (.pointer (some ⟨g, o, none⟩)) := by kernel_rfl
@[go_sem high] theorem fb37x0 (g : Nat) : QfieldAddr Try.prog 37 (.pointer (some ⟨g, 0, none⟩)) 0 = some (.pointer (some ⟨g, 0, none⟩)) := by kernel_rfl
theorem one5 : one Try.prog 5 = true := by kernel_rfl
@[go_sem] theorem fa37x1 (g o : Nat) : QfieldAddr Try.prog 37 (.pointer (some ⟨g, o, none⟩)) 1 = some (.pointer (some ⟨g, o + 1, none⟩)) := by kernel_rfl
@[go_sem high] theorem fb37x1 (g : Nat) : QfieldAddr Try.prog 37 (.pointer (some ⟨g, 0, none⟩)) 1 = some (.pointer (some ⟨g, 1, none⟩)) := by kernel_rfl
theorem one35 : one Try.prog 35 = true := by kernel_rfl
@[go_sem] theorem fa37x2 (g o : Nat) : QfieldAddr Try.prog 37 (.pointer (some ⟨g, o, none⟩)) 2 = some (.pointer (some ⟨g, o + 2, none⟩)) := by kernel_rfl
@[go_sem high] theorem fb37x2 (g : Nat) : QfieldAddr Try.prog 37 (.pointer (some ⟨g, 0, none⟩)) 2 = some (.pointer (some ⟨g, 2, none⟩)) := by kernel_rfl
@[go_sem] theorem fa37x3 (g o : Nat) : QfieldAddr Try.prog 37 (.pointer (some ⟨g, o, none⟩)) 3 = some (.pointer (some ⟨g, o + 3, none⟩)) := by kernel_rfl
@[go_sem high] theorem fb37x3 (g : Nat) : QfieldAddr Try.prog 37 (.pointer (some ⟨g, 0, none⟩)) 3 = some (.pointer (some ⟨g, 3, none⟩)) := by kernel_rfl
theorem one23 : one Try.prog 23 = true := by kernel_rfl
@[go_sem] theorem fa37x4 (g o : Nat) : QfieldAddr Try.prog 37 (.pointer (some ⟨g, o, none⟩)) 4 = some (.pointer (some ⟨g, o + 4, none⟩)) := by kernel_rfl
@[go_sem high] theorem fb37x4 (g : Nat) : QfieldAddr Try.prog 37 (.pointer (some ⟨g, 0, none⟩)) 4 = some (.pointer (some ⟨g, 4, none⟩)) := by kernel_rfl
theorem Tup.f0 {x : Tup} {w : World} {g o : Nat} (h : CellsAt x.cs w g o) : Qload Try.prog 5 (.pointer (some ⟨g, o, none⟩)) w = some (.int .u8 x.proto) := Qload_cell one5 (h 0 _ rfl)
theorem Tup.b0 {x : Tup} {w : World} {g : Nat} (h : CellsAt x.cs w g 0) : Qload Try.prog 5 (.pointer (some ⟨g, 0, none⟩)) w = some (.int .u8 x.proto) := Qload_cell one5 (by have := h 0 _ rfl; rwa [Nat.zero_add] at this)
theorem Tup.f1 {x : Tup} {w : World} {g o : Nat} (h : CellsAt x.cs w g o) : Qload Try.prog 35 (.pointer (some ⟨g, o + 1, none⟩)) w = some (.int .u32 x.src) := Qload_cell one35 (h 1 _ rfl)
theorem Tup.b1 {x : Tup} {w : World} {g : Nat} (h : CellsAt x.cs w g 0) : Qload Try.prog 35 (.pointer (some ⟨g, 1, none⟩)) w = some (.int .u32 x.src) := Qload_cell one35 (by have := h 1 _ rfl; rwa [Nat.zero_add] at this)
theorem Tup.f2 {x : Tup} {w : World} {g o : Nat} (h : CellsAt x.cs w g o) : Qload Try.prog 35 (.pointer (some ⟨g, o + 2, none⟩)) w = some (.int .u32 x.dst) := Qload_cell one35 (h 2 _ rfl)
theorem Tup.b2 {x : Tup} {w : World} {g : Nat} (h : CellsAt x.cs w g 0) : Qload Try.prog 35 (.pointer (some ⟨g, 2, none⟩)) w = some (.int .u32 x.dst) := Qload_cell one35 (by have := h 2 _ rfl; rwa [Nat.zero_add] at this)
theorem Tup.f3 {x : Tup} {w : World} {g o : Nat} (h : CellsAt x.cs w g o) : Qload Try.prog 23 (.pointer (some ⟨g, o + 3, none⟩)) w = some (.int .u16 x.srcPort) := Qload_cell one23 (h 3 _ rfl)
theorem Tup.b3 {x : Tup} {w : World} {g : Nat} (h : CellsAt x.cs w g 0) : Qload Try.prog 23 (.pointer (some ⟨g, 3, none⟩)) w = some (.int .u16 x.srcPort) := Qload_cell one23 (by have := h 3 _ rfl; rwa [Nat.zero_add] at this)
theorem Tup.f4 {x : Tup} {w : World} {g o : Nat} (h : CellsAt x.cs w g o) : Qload Try.prog 23 (.pointer (some ⟨g, o + 4, none⟩)) w = some (.int .u16 x.dstPort) := Qload_cell one23 (h 4 _ rfl)
theorem Tup.b4 {x : Tup} {w : World} {g : Nat} (h : CellsAt x.cs w g 0) : Qload Try.prog 23 (.pointer (some ⟨g, 4, none⟩)) w = some (.int .u16 x.dstPort) := Qload_cell one23 (by have := h 4 _ rfl; rwa [Nat.zero_add] at this)
theorem Tup.all {x : Tup} {w : World} {g o : Nat} (h : CellsAt x.cs w g o) : Qload Try.prog 37 (.pointer (some ⟨g, o, none⟩)) w = some x.v := by
  obtain ⟨i, hi, hs⟩ := inf37
  exact Qload_cells Try.underlying37 hi (hs.trans x.len.symm) h
theorem Tup.box (x : Tup) (w : World) : Xbox Try.prog 37 x.v w = some (.pointer (some ⟨w.heap.size, 0, none⟩), w.alloc (.cells x.cs.toArray 37)) := nonrfl rfl
theorem Tup.new (x : Tup) (w : World) : CellsAt x.cs (w.alloc (.cells x.cs.toArray 37)) w.heap.size 0 := CellsAt.of (MapKept.heap_alloc w _).1
theorem Tup.one1 (x : Tup) : ∀ u ∈ x.v.cells.toList, u.oneCell' = true := by
  intro u hu
  have hu : u ∈ x.cs := by simpa [Tup.v, Value.cells] using hu
  exact List.all_eq_true.1 (show x.cs.all (fun u => u.oneCell') = true from rfl) u hu
theorem alloc37 (w : World) : Xalloc Try.prog 37 w = some (.pointer (some ⟨w.heap.size, 0, none⟩), w.alloc (.cells Tup.zero.cs.toArray 37)) := Xalloc_eq (zero37 w)
theorem store37 {x : Tup} {w : World} {g : Nat} {cur : Array Value} {te : TypeId} (hg : w.heap[g]? = some (.cells cur te (0, 0))) (hc : cur.size = 5) : Xstore Try.prog 37 (.pointer (some ⟨g, 0, none⟩)) x.v w = some (undef, w.setRow g x.cs.toArray) := by
  obtain ⟨i, hi, hs⟩ := inf37
  exact Xstore_var (v := x.v) hi (by rw [hs]; rfl) hg (by rw [hs]; exact hc) x.one1
theorem put37 (x z : Tup) (w : World) : Xstore Try.prog 37 (.pointer (some ⟨w.heap.size, 0, none⟩)) x.v (w.alloc (.cells z.cs.toArray 37)) = some (undef, (w.alloc (.cells z.cs.toArray 37)).setRow w.heap.size x.cs.toArray) := store37 (MapKept.heap_alloc w _).1 rfl
set_option maxRecDepth 100000 in
theorem okc37 {w : World} {n : Nat} {cs : List Value} (h : Okc Try.prog w n 37 cs) : ∃ x : Tup, cs = x.cs ∧ x.ok := by
  cases n with
  | zero => exact h.elim
  | succ n =>
    unfold Okc at h
    rw [Try.underlying37] at h
    obtain ⟨hl, hf⟩ := h
    rw [show Try.prog.cellsOf 37 = 5 from by kernel_rfl] at hl
    match cs, hl, hf with
    | [c0, c1, c2, c3, c4], _, hf =>
      have h0 := hf _ (List.mem_iff_getElem.2 ⟨0, by decide +kernel, rfl⟩)
      change Okc Try.prog w n 5 (([c0, c1, c2, c3, c4].drop 0).take (Try.prog.cellsOf 5)) at h0
      rw [show Try.prog.cellsOf 5 = 1 from by kernel_rfl] at h0
      obtain ⟨m0, e0, w0⟩ := okc_int (k := .u8) (by kernel_rfl) h0
      have h1 := hf _ (List.mem_iff_getElem.2 ⟨1, by decide +kernel, rfl⟩)
      change Okc Try.prog w n 35 (([c0, c1, c2, c3, c4].drop 1).take (Try.prog.cellsOf 35)) at h1
      rw [show Try.prog.cellsOf 35 = 1 from by kernel_rfl] at h1
      obtain ⟨m1, e1, w1⟩ := okc_int (k := .u32) (by kernel_rfl) h1
      have h2 := hf _ (List.mem_iff_getElem.2 ⟨2, by decide +kernel, rfl⟩)
      change Okc Try.prog w n 35 (([c0, c1, c2, c3, c4].drop 2).take (Try.prog.cellsOf 35)) at h2
      rw [show Try.prog.cellsOf 35 = 1 from by kernel_rfl] at h2
      obtain ⟨m2, e2, w2⟩ := okc_int (k := .u32) (by kernel_rfl) h2
      have h3 := hf _ (List.mem_iff_getElem.2 ⟨3, by decide +kernel, rfl⟩)
      change Okc Try.prog w n 23 (([c0, c1, c2, c3, c4].drop 3).take (Try.prog.cellsOf 23)) at h3
      rw [show Try.prog.cellsOf 23 = 1 from by kernel_rfl] at h3
      obtain ⟨m3, e3, w3⟩ := okc_int (k := .u16) (by kernel_rfl) h3
      have h4 := hf _ (List.mem_iff_getElem.2 ⟨4, by decide +kernel, rfl⟩)
      change Okc Try.prog w n 23 (([c0, c1, c2, c3, c4].drop 4).take (Try.prog.cellsOf 23)) at h4
      rw [show Try.prog.cellsOf 23 = 1 from by kernel_rfl] at h4
      obtain ⟨m4, e4, w4⟩ := okc_int (k := .u16) (by kernel_rfl) h4
      refine ⟨⟨m0, m1, m2, m3, m4⟩, ?_, ⟨w0, w1, w2, w3, w4⟩⟩
      subst e0 e1 e2 e3 e4
      rfl
set_option maxRecDepth 100000 in
theorem open37 {w : World} {r : Reach} {b n : Nat} {v : Value} (hw : Value.okWide Try.prog w r b 37 v) (h : Okc Try.prog w n 37 v.cells.toList) : ∃ x : Tup, v = x.v ∧ x.ok := by
  obtain ⟨cs, rfl, _⟩ := Go.WideShapes.okWide_struct Try.underlying37 hw
  obtain ⟨x, hx, hok⟩ := okc37 h
  exact ⟨x, by rw [Tup.v, ← hx]; rfl, hok⟩
theorem eqv37 (x y : Tup) : eqV Try.prog 37 x.v y.v = (match (x.proto == y.proto) with | true => (match (x.src == y.src) with | true => (match (x.dst == y.dst) with | true => (match (x.srcPort == y.srcPort) with | true => (match (x.dstPort == y.dstPort) with | true => (some true) | false => some false) | false => some false) | false => some false) | false => some false) | false => some false) := by kernel_rfl
theorem eqq37 (x y : Tup) : eqV Try.prog 37 x.v y.v = some (decide (x = y)) := by
  rw [eqv37]
  obtain ⟨a0, a1, a2, a3, a4⟩ := x
  obtain ⟨b0, b1, b2, b3, b4⟩ := y
  simp only [Tup.mk.injEq]
  cases h0 : (a0 == b0)
  · have : ¬ a0 = b0 := by simpa using h0
    simp [this]
  have e0 : a0 = b0 := by simpa using h0
  cases h1 : (a1 == b1)
  · have : ¬ a1 = b1 := by simpa using h1
    simp [this]
  have e1 : a1 = b1 := by simpa using h1
  cases h2 : (a2 == b2)
  · have : ¬ a2 = b2 := by simpa using h2
    simp [this]
  have e2 : a2 = b2 := by simpa using h2
  cases h3 : (a3 == b3)
  · have : ¬ a3 = b3 := by simpa using h3
    simp [this]
  have e3 : a3 = b3 := by simpa using h3
  cases h4 : (a4 == b4)
  · have : ¬ a4 = b4 := by simpa using h4
    simp [this]
  have e4 : a4 = b4 := by simpa using h4
  simp [e0, e1, e2, e3, e4]
theorem Tup.eql (x y : Tup) : Qbin Try.prog .eql 37 x.v y.v = some (.bool (decide (x = y))) := by
  show (eqV Try.prog 37 x.v y.v).map Value.bool = _
  rw [eqq37]; rfl
theorem Tup.neq (x y : Tup) : Qbin Try.prog .neq 37 x.v y.v = some (.bool (!decide (x = y))) := by
  show (eqV Try.prog 37 x.v y.v).map (fun b => Value.bool !b) = _
  rw [eqq37]; rfl
/-! ### Rw: type 73 -/
structure Rw where
  key : Tup
  value : Int
  till : Int
  seq : Int
  deriving DecidableEq
def Rw.cs (x : Rw) : List Value := x.key.cs ++ [.int .i64 x.value] ++ [.int .i64 x.till] ++ [.int .i64 x.seq]
def Rw.v (x : Rw) : Value := .agg x.cs.toArray
def Rw.ok (x : Rw) : Prop := x.key.ok ∧ (Lit.int .i64 x.value).wf = true ∧ (Lit.int .i64 x.till).wf = true ∧ (Lit.int .i64 x.seq).wf = true
def Rw.zero : Rw := ⟨Tup.zero, 0, 0, 0⟩
theorem Rw.len (x : Rw) : x.cs.length = 8 := rfl
theorem zero73 (w : World) : (zeroValue 73).run Try.prog w = .ok Rw.zero.v w := by kernel_rfl
theorem inf73 : ∃ i, Try.prog.info? 73 = some i ∧ i.size = 8 := ⟨(Try.prog.info? 73).get (by kernel_rfl), by kernel_rfl, by kernel_rfl⟩
@[go_sem] theorem fa73x0 (g o : Nat) : QfieldAddr Try.prog 73 (.pointer (some ⟨g, o, none⟩)) 0 = some (.pointer (some ⟨g, o, none⟩)) := by kernel_rfl
@[go_sem high] theorem fb73x0 (g : Nat) : QfieldAddr Try.prog 73 (.pointer (some ⟨g, 0, none⟩)) 0 = some (.pointer (some ⟨g, 0, none⟩)) := by kernel_rfl
@[go_sem] theorem fa73x1 (g o : Nat) : QfieldAddr Try.prog 73 (.pointer (some ⟨g, o, none⟩)) 1 = some (.pointer (some ⟨g, o + 5, none⟩)) := by kernel_rfl
@[go_sem high] theorem fb73x1 (g : Nat) : QfieldAddr Try.prog 73 (.pointer (some ⟨g, 0, none⟩)) 1 = some (.pointer (some ⟨g, 5, none⟩)) := by kernel_rfl
theorem one3 : one Try.prog 3 = true := by kernel_rfl
@[go_sem] theorem fa73x2 (g o : Nat) : QfieldAddr Try.prog 73 (.pointer (some ⟨g, o, none⟩)) 2 = some (.pointer (some ⟨g, o + 6, none⟩)) := by kernel_rfl
@[go_sem high] theorem fb73x2 (g : Nat) : QfieldAddr Try.prog 73 (.pointer (some ⟨g, 0, none⟩)) 2 = some (.pointer (some ⟨g, 6, none⟩)) := by kernel_rfl
@[go_sem] theorem fa73x3 (g o : Nat) : QfieldAddr Try.prog 73 (.pointer (some ⟨g, o, none⟩)) 3 = some (.pointer (some ⟨g, o + 7, none⟩)) := by kernel_rfl
@[go_sem high] theorem fb73x3 (g : Nat) : QfieldAddr Try.prog 73 (.pointer (some ⟨g, 0, none⟩)) 3 = some (.pointer (some ⟨g, 7, none⟩)) := by kernel_rfl
theorem Rw.in0 {x : Rw} {w : World} {g o : Nat} (h : CellsAt x.cs w g o) : CellsAt x.key.cs w g (o) := by
  have : x.cs = ([]) ++ x.key.cs ++ ([.int .i64 x.value] ++ [.int .i64 x.till] ++ [.int .i64 x.seq]) := by simp [Rw.cs]
  rw [this] at h
  exact h.part
theorem Rw.f1 {x : Rw} {w : World} {g o : Nat} (h : CellsAt x.cs w g o) : Qload Try.prog 3 (.pointer (some ⟨g, o + 5, none⟩)) w = some (.int .i64 x.value) := Qload_cell one3 (h 5 _ rfl)
theorem Rw.b1 {x : Rw} {w : World} {g : Nat} (h : CellsAt x.cs w g 0) : Qload Try.prog 3 (.pointer (some ⟨g, 5, none⟩)) w = some (.int .i64 x.value) := Qload_cell one3 (by have := h 5 _ rfl; rwa [Nat.zero_add] at this)
theorem Rw.f2 {x : Rw} {w : World} {g o : Nat} (h : CellsAt x.cs w g o) : Qload Try.prog 3 (.pointer (some ⟨g, o + 6, none⟩)) w = some (.int .i64 x.till) := Qload_cell one3 (h 6 _ rfl)
theorem Rw.b2 {x : Rw} {w : World} {g : Nat} (h : CellsAt x.cs w g 0) : Qload Try.prog 3 (.pointer (some ⟨g, 6, none⟩)) w = some (.int .i64 x.till) := Qload_cell one3 (by have := h 6 _ rfl; rwa [Nat.zero_add] at this)
theorem Rw.f3 {x : Rw} {w : World} {g o : Nat} (h : CellsAt x.cs w g o) : Qload Try.prog 3 (.pointer (some ⟨g, o + 7, none⟩)) w = some (.int .i64 x.seq) := Qload_cell one3 (h 7 _ rfl)
theorem Rw.b3 {x : Rw} {w : World} {g : Nat} (h : CellsAt x.cs w g 0) : Qload Try.prog 3 (.pointer (some ⟨g, 7, none⟩)) w = some (.int .i64 x.seq) := Qload_cell one3 (by have := h 7 _ rfl; rwa [Nat.zero_add] at this)
theorem Rw.all {x : Rw} {w : World} {g o : Nat} (h : CellsAt x.cs w g o) : Qload Try.prog 73 (.pointer (some ⟨g, o, none⟩)) w = some x.v := by
  obtain ⟨i, hi, hs⟩ := inf73
  exact Qload_cells Try.underlying73 hi (hs.trans x.len.symm) h
theorem Rw.box (x : Rw) (w : World) : Xbox Try.prog 73 x.v w = some (.pointer (some ⟨w.heap.size, 0, none⟩), w.alloc (.cells x.cs.toArray 73)) := nonrfl rfl
theorem Rw.new (x : Rw) (w : World) : CellsAt x.cs (w.alloc (.cells x.cs.toArray 73)) w.heap.size 0 := CellsAt.of (MapKept.heap_alloc w _).1
theorem Rw.one1 (x : Rw) : ∀ u ∈ x.v.cells.toList, u.oneCell' = true := by
  intro u hu
  have hu : u ∈ x.cs := by simpa [Rw.v, Value.cells] using hu
  exact List.all_eq_true.1 (show x.cs.all (fun u => u.oneCell') = true from rfl) u hu
theorem alloc73 (w : World) : Xalloc Try.prog 73 w = some (.pointer (some ⟨w.heap.size, 0, none⟩), w.alloc (.cells Rw.zero.cs.toArray 73)) := Xalloc_eq (zero73 w)
theorem store73 {x : Rw} {w : World} {g : Nat} {cur : Array Value} {te : TypeId} (hg : w.heap[g]? = some (.cells cur te (0, 0))) (hc : cur.size = 8) : Xstore Try.prog 73 (.pointer (some ⟨g, 0, none⟩)) x.v w = some (undef, w.setRow g x.cs.toArray) := by
  obtain ⟨i, hi, hs⟩ := inf73
  exact Xstore_var (v := x.v) hi (by rw [hs]; rfl) hg (by rw [hs]; exact hc) x.one1
theorem put73 (x z : Rw) (w : World) : Xstore Try.prog 73 (.pointer (some ⟨w.heap.size, 0, none⟩)) x.v (w.alloc (.cells z.cs.toArray 73)) = some (undef, (w.alloc (.cells z.cs.toArray 73)).setRow w.heap.size x.cs.toArray) := store73 (MapKept.heap_alloc w _).1 rfl
set_option maxRecDepth 100000 in
theorem okc73 {w : World} {n : Nat} {cs : List Value} (h : Okc Try.prog w n 73 cs) : ∃ x : Rw, cs = x.cs ∧ x.ok := by
  cases n with
  | zero => exact h.elim
  | succ n =>
    unfold Okc at h
    rw [Try.underlying73] at h
    obtain ⟨hl, hf⟩ := h
    rw [show Try.prog.cellsOf 73 = 8 from by kernel_rfl] at hl
    match cs, hl, hf with
    | [c0, c1, c2, c3, c4, c5, c6, c7], _, hf =>
      have h0 := hf _ (List.mem_iff_getElem.2 ⟨0, by decide +kernel, rfl⟩)
      change Okc Try.prog w n 37 (([c0, c1, c2, c3, c4, c5, c6, c7].drop 0).take (Try.prog.cellsOf 37)) at h0
      rw [show Try.prog.cellsOf 37 = 5 from by kernel_rfl] at h0
      obtain ⟨m0, e0, w0⟩ := okc37 h0
      have h1 := hf _ (List.mem_iff_getElem.2 ⟨1, by decide +kernel, rfl⟩)
      change Okc Try.prog w n 3 (([c0, c1, c2, c3, c4, c5, c6, c7].drop 5).take (Try.prog.cellsOf 3)) at h1
      rw [show Try.prog.cellsOf 3 = 1 from by kernel_rfl] at h1
      obtain ⟨m1, e1, w1⟩ := okc_int (k := .i64) (by kernel_rfl) h1
      have h2 := hf _ (List.mem_iff_getElem.2 ⟨2, by decide +kernel, rfl⟩)
      change Okc Try.prog w n 3 (([c0, c1, c2, c3, c4, c5, c6, c7].drop 6).take (Try.prog.cellsOf 3)) at h2
      rw [show Try.prog.cellsOf 3 = 1 from by kernel_rfl] at h2
      obtain ⟨m2, e2, w2⟩ := okc_int (k := .i64) (by kernel_rfl) h2
      have h3 := hf _ (List.mem_iff_getElem.2 ⟨3, by decide +kernel, rfl⟩)
      change Okc Try.prog w n 3 (([c0, c1, c2, c3, c4, c5, c6, c7].drop 7).take (Try.prog.cellsOf 3)) at h3
      rw [show Try.prog.cellsOf 3 = 1 from by kernel_rfl] at h3
      obtain ⟨m3, e3, w3⟩ := okc_int (k := .i64) (by kernel_rfl) h3
      refine ⟨⟨m0, m1, m2, m3⟩, ?_, ⟨w0, w1, w2, w3⟩⟩
      subst e1
      subst e2
      subst e3
      show _ = m0.cs ++ [.int .i64 m1] ++ [.int .i64 m2] ++ [.int .i64 m3]
      rw [← e0]
      rfl
set_option maxRecDepth 100000 in
theorem open73 {w : World} {r : Reach} {b n : Nat} {v : Value} (hw : Value.okWide Try.prog w r b 73 v) (h : Okc Try.prog w n 73 v.cells.toList) : ∃ x : Rw, v = x.v ∧ x.ok := by
  obtain ⟨cs, rfl, _⟩ := Go.WideShapes.okWide_struct Try.underlying73 hw
  obtain ⟨x, hx, hok⟩ := okc73 h
  exact ⟨x, by rw [Rw.v, ← hx]; rfl, hok⟩
/-! ### Deed: type 44 -/
structure Deed where
  kind : Int
  k : Tup
  id_ : Int
  till : Int
  deriving DecidableEq
def Deed.cs (x : Deed) : List Value := [.int .i64 x.kind] ++ x.k.cs ++ [.int .i64 x.id_] ++ [.int .i64 x.till]
def Deed.v (x : Deed) : Value := .agg x.cs.toArray
def Deed.ok (x : Deed) : Prop := (Lit.int .i64 x.kind).wf = true ∧ x.k.ok ∧ (Lit.int .i64 x.id_).wf = true ∧ (Lit.int .i64 x.till).wf = true
def Deed.zero : Deed := ⟨0, Tup.zero, 0, 0⟩
theorem Deed.len (x : Deed) : x.cs.length = 8 := rfl
theorem zero44 (w : World) : (zeroValue 44).run Try.prog w = .ok Deed.zero.v w := by kernel_rfl
theorem inf44 : ∃ i, Try.prog.info? 44 = some i ∧ i.size = 8 := ⟨(Try.prog.info? 44).get (by kernel_rfl), by kernel_rfl, by kernel_rfl⟩
@[go_sem] theorem fa44x0 (g o : Nat) : QfieldAddr Try.prog 44 (.pointer (some ⟨g, o, none⟩)) 0 = some (.pointer (some ⟨g, o, none⟩)) := by kernel_rfl
@[go_sem high] theorem fb44x0 (g : Nat) : QfieldAddr Try.prog 44 (.pointer (some ⟨g, 0, none⟩)) 0 = some (.pointer (some ⟨g, 0, none⟩)) := by kernel_rfl
@[go_sem] theorem fa44x1 (g o : Nat) : QfieldAddr Try.prog 44 (.pointer (some ⟨g, o, none⟩)) 1 = some (.pointer (some ⟨g, o + 1, none⟩)) := by kernel_rfl
@[go_sem high] theorem fb44x1 (g : Nat) : QfieldAddr Try.prog 44 (.pointer (some ⟨g, 0, none⟩)) 1 = some (.pointer (some ⟨g, 1, none⟩)) := by kernel_rfl
@[go_sem] theorem fa44x2 (g o : Nat) : QfieldAddr Try.prog 44 (.pointer (some ⟨g, o, none⟩)) 2 = some (.pointer (some ⟨g, o + 6, none⟩)) := by kernel_rfl
@[go_sem high] theorem fb44x2 (g : Nat) : QfieldAddr Try.prog 44 (.pointer (some ⟨g, 0, none⟩)) 2 = some (.pointer (some ⟨g, 6, none⟩)) := by kernel_rfl
@[go_sem] theorem fa44x3 (g o : Nat) : QfieldAddr Try.prog 44 (.pointer (some ⟨g, o, none⟩)) 3 = some (.pointer (some ⟨g, o + 7, none⟩)) := by kernel_rfl
@[go_sem high] theorem fb44x3 (g : Nat) : QfieldAddr Try.prog 44 (.pointer (some ⟨g, 0, none⟩)) 3 = some (.pointer (some ⟨g, 7, none⟩)) := by kernel_rfl
theorem Deed.f0 {x : Deed} {w : World} {g o : Nat} (h : CellsAt x.cs w g o) : Qload Try.prog 3 (.pointer (some ⟨g, o, none⟩)) w = some (.int .i64 x.kind) := Qload_cell one3 (h 0 _ rfl)
theorem Deed.b0 {x : Deed} {w : World} {g : Nat} (h : CellsAt x.cs w g 0) : Qload Try.prog 3 (.pointer (some ⟨g, 0, none⟩)) w = some (.int .i64 x.kind) := Qload_cell one3 (by have := h 0 _ rfl; rwa [Nat.zero_add] at this)
theorem Deed.in1 {x : Deed} {w : World} {g o : Nat} (h : CellsAt x.cs w g o) : CellsAt x.k.cs w g (o + 1) := by
  have : x.cs = ([.int .i64 x.kind]) ++ x.k.cs ++ ([.int .i64 x.id_] ++ [.int .i64 x.till]) := by simp [Deed.cs]
  rw [this] at h
  exact h.part
theorem Deed.f2 {x : Deed} {w : World} {g o : Nat} (h : CellsAt x.cs w g o) : Qload Try.prog 3 (.pointer (some ⟨g, o + 6, none⟩)) w = some (.int .i64 x.id_) := Qload_cell one3 (h 6 _ rfl)
theorem Deed.b2 {x : Deed} {w : World} {g : Nat} (h : CellsAt x.cs w g 0) : Qload Try.prog 3 (.pointer (some ⟨g, 6, none⟩)) w = some (.int .i64 x.id_) := Qload_cell one3 (by have := h 6 _ rfl; rwa [Nat.zero_add] at this)
theorem Deed.f3 {x : Deed} {w : World} {g o : Nat} (h : CellsAt x.cs w g o) : Qload Try.prog 3 (.pointer (some ⟨g, o + 7, none⟩)) w = some (.int .i64 x.till) := Qload_cell one3 (h 7 _ rfl)
theorem Deed.b3 {x : Deed} {w : World} {g : Nat} (h : CellsAt x.cs w g 0) : Qload Try.prog 3 (.pointer (some ⟨g, 7, none⟩)) w = some (.int .i64 x.till) := Qload_cell one3 (by have := h 7 _ rfl; rwa [Nat.zero_add] at this)
theorem Deed.all {x : Deed} {w : World} {g o : Nat} (h : CellsAt x.cs w g o) : Qload Try.prog 44 (.pointer (some ⟨g, o, none⟩)) w = some x.v := by
  obtain ⟨i, hi, hs⟩ := inf44
  exact Qload_cells Try.underlying44 hi (hs.trans x.len.symm) h
theorem Deed.box (x : Deed) (w : World) : Xbox Try.prog 44 x.v w = some (.pointer (some ⟨w.heap.size, 0, none⟩), w.alloc (.cells x.cs.toArray 44)) := nonrfl rfl
theorem Deed.new (x : Deed) (w : World) : CellsAt x.cs (w.alloc (.cells x.cs.toArray 44)) w.heap.size 0 := CellsAt.of (MapKept.heap_alloc w _).1
theorem Deed.one1 (x : Deed) : ∀ u ∈ x.v.cells.toList, u.oneCell' = true := by
  intro u hu
  have hu : u ∈ x.cs := by simpa [Deed.v, Value.cells] using hu
  exact List.all_eq_true.1 (show x.cs.all (fun u => u.oneCell') = true from rfl) u hu
theorem alloc44 (w : World) : Xalloc Try.prog 44 w = some (.pointer (some ⟨w.heap.size, 0, none⟩), w.alloc (.cells Deed.zero.cs.toArray 44)) := Xalloc_eq (zero44 w)
theorem store44 {x : Deed} {w : World} {g : Nat} {cur : Array Value} {te : TypeId} (hg : w.heap[g]? = some (.cells cur te (0, 0))) (hc : cur.size = 8) : Xstore Try.prog 44 (.pointer (some ⟨g, 0, none⟩)) x.v w = some (undef, w.setRow g x.cs.toArray) := by
  obtain ⟨i, hi, hs⟩ := inf44
  exact Xstore_var (v := x.v) hi (by rw [hs]; rfl) hg (by rw [hs]; exact hc) x.one1
theorem put44 (x z : Deed) (w : World) : Xstore Try.prog 44 (.pointer (some ⟨w.heap.size, 0, none⟩)) x.v (w.alloc (.cells z.cs.toArray 44)) = some (undef, (w.alloc (.cells z.cs.toArray 44)).setRow w.heap.size x.cs.toArray) := store44 (MapKept.heap_alloc w _).1 rfl
set_option maxRecDepth 100000 in
theorem okc44 {w : World} {n : Nat} {cs : List Value} (h : Okc Try.prog w n 44 cs) : ∃ x : Deed, cs = x.cs ∧ x.ok := by
  cases n with
  | zero => exact h.elim
  | succ n =>
    unfold Okc at h
    rw [Try.underlying44] at h
    obtain ⟨hl, hf⟩ := h
    rw [show Try.prog.cellsOf 44 = 8 from by kernel_rfl] at hl
    match cs, hl, hf with
    | [c0, c1, c2, c3, c4, c5, c6, c7], _, hf =>
      have h0 := hf _ (List.mem_iff_getElem.2 ⟨0, by decide +kernel, rfl⟩)
      change Okc Try.prog w n 3 (([c0, c1, c2, c3, c4, c5, c6, c7].drop 0).take (Try.prog.cellsOf 3)) at h0
      rw [show Try.prog.cellsOf 3 = 1 from by kernel_rfl] at h0
      obtain ⟨m0, e0, w0⟩ := okc_int (k := .i64) (by kernel_rfl) h0
      have h1 := hf _ (List.mem_iff_getElem.2 ⟨1, by decide +kernel, rfl⟩)
      change Okc Try.prog w n 37 (([c0, c1, c2, c3, c4, c5, c6, c7].drop 1).take (Try.prog.cellsOf 37)) at h1
      rw [show Try.prog.cellsOf 37 = 5 from by kernel_rfl] at h1
      obtain ⟨m1, e1, w1⟩ := okc37 h1
      have h2 := hf _ (List.mem_iff_getElem.2 ⟨2, by decide +kernel, rfl⟩)
      change Okc Try.prog w n 3 (([c0, c1, c2, c3, c4, c5, c6, c7].drop 6).take (Try.prog.cellsOf 3)) at h2
      rw [show Try.prog.cellsOf 3 = 1 from by kernel_rfl] at h2
      obtain ⟨m2, e2, w2⟩ := okc_int (k := .i64) (by kernel_rfl) h2
      have h3 := hf _ (List.mem_iff_getElem.2 ⟨3, by decide +kernel, rfl⟩)
      change Okc Try.prog w n 3 (([c0, c1, c2, c3, c4, c5, c6, c7].drop 7).take (Try.prog.cellsOf 3)) at h3
      rw [show Try.prog.cellsOf 3 = 1 from by kernel_rfl] at h3
      obtain ⟨m3, e3, w3⟩ := okc_int (k := .i64) (by kernel_rfl) h3
      refine ⟨⟨m0, m1, m2, m3⟩, ?_, ⟨w0, w1, w2, w3⟩⟩
      subst e0
      subst e2
      subst e3
      show _ = [.int .i64 m0] ++ m1.cs ++ [.int .i64 m2] ++ [.int .i64 m3]
      rw [← e1]
      rfl
set_option maxRecDepth 100000 in
theorem open44 {w : World} {r : Reach} {b n : Nat} {v : Value} (hw : Value.okWide Try.prog w r b 44 v) (h : Okc Try.prog w n 44 v.cells.toList) : ∃ x : Deed, v = x.v ∧ x.ok := by
  obtain ⟨cs, rfl, _⟩ := Go.WideShapes.okWide_struct Try.underlying44 hw
  obtain ⟨x, hx, hok⟩ := okc44 h
  exact ⟨x, by rw [Deed.v, ← hx]; rfl, hok⟩
/-! ### Rw, as the reference has it: type 99 -/
theorem zero99 (w : World) : (zeroValue 99).run Try.prog w = .ok Rw.zero.v w := by kernel_rfl
theorem inf99 : ∃ i, Try.prog.info? 99 = some i ∧ i.size = 8 := ⟨(Try.prog.info? 99).get (by kernel_rfl), by kernel_rfl, by kernel_rfl⟩
@[go_sem] theorem fa99x0 (g o : Nat) : QfieldAddr Try.prog 99 (.pointer (some ⟨g, o, none⟩)) 0 = some (.pointer (some ⟨g, o, none⟩)) := by kernel_rfl
@[go_sem high] theorem fb99x0 (g : Nat) : QfieldAddr Try.prog 99 (.pointer (some ⟨g, 0, none⟩)) 0 = some (.pointer (some ⟨g, 0, none⟩)) := by kernel_rfl
@[go_sem] theorem fa99x1 (g o : Nat) : QfieldAddr Try.prog 99 (.pointer (some ⟨g, o, none⟩)) 1 = some (.pointer (some ⟨g, o + 5, none⟩)) := by kernel_rfl
@[go_sem high] theorem fb99x1 (g : Nat) : QfieldAddr Try.prog 99 (.pointer (some ⟨g, 0, none⟩)) 1 = some (.pointer (some ⟨g, 5, none⟩)) := by kernel_rfl
@[go_sem] theorem fa99x2 (g o : Nat) : QfieldAddr Try.prog 99 (.pointer (some ⟨g, o, none⟩)) 2 = some (.pointer (some ⟨g, o + 6, none⟩)) := by kernel_rfl
@[go_sem high] theorem fb99x2 (g : Nat) : QfieldAddr Try.prog 99 (.pointer (some ⟨g, 0, none⟩)) 2 = some (.pointer (some ⟨g, 6, none⟩)) := by kernel_rfl
@[go_sem] theorem fa99x3 (g o : Nat) : QfieldAddr Try.prog 99 (.pointer (some ⟨g, o, none⟩)) 3 = some (.pointer (some ⟨g, o + 7, none⟩)) := by kernel_rfl
@[go_sem high] theorem fb99x3 (g : Nat) : QfieldAddr Try.prog 99 (.pointer (some ⟨g, 0, none⟩)) 3 = some (.pointer (some ⟨g, 7, none⟩)) := by kernel_rfl
theorem all99 {x : Rw} {w : World} {g o : Nat} (h : CellsAt x.cs w g o) : Qload Try.prog 99 (.pointer (some ⟨g, o, none⟩)) w = some x.v := by
  obtain ⟨i, hi, hs⟩ := inf99
  exact Qload_cells Try.underlying99 hi (hs.trans x.len.symm) h
theorem box99 (x : Rw) (w : World) : Xbox Try.prog 99 x.v w = some (.pointer (some ⟨w.heap.size, 0, none⟩), w.alloc (.cells x.cs.toArray 99)) := nonrfl rfl
theorem alloc99 (w : World) : Xalloc Try.prog 99 w = some (.pointer (some ⟨w.heap.size, 0, none⟩), w.alloc (.cells Rw.zero.cs.toArray 99)) := Xalloc_eq (zero99 w)
theorem store99 {x : Rw} {w : World} {g : Nat} {cur : Array Value} {te : TypeId} (hg : w.heap[g]? = some (.cells cur te (0, 0))) (hc : cur.size = 8) : Xstore Try.prog 99 (.pointer (some ⟨g, 0, none⟩)) x.v w = some (undef, w.setRow g x.cs.toArray) := by
  obtain ⟨i, hi, hs⟩ := inf99
  exact Xstore_var (v := x.v) hi (by rw [hs]; rfl) hg (by rw [hs]; exact hc) x.one1
theorem put99 (x z : Rw) (w : World) : Xstore Try.prog 99 (.pointer (some ⟨w.heap.size, 0, none⟩)) x.v (w.alloc (.cells z.cs.toArray 99)) = some (undef, (w.alloc (.cells z.cs.toArray 99)).setRow w.heap.size x.cs.toArray) := store99 (MapKept.heap_alloc w _).1 rfl
end Go.Proofs.Ytcibkmahibnjeaa
