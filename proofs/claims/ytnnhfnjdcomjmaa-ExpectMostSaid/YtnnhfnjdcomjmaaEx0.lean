/- Structs of the package, as Lean structures. -/
import Derived.Test.YtnnhfnjdcomjmaaFd
import Derived.Test.YtnnhfnjdcomjmaaFn
namespace Go.Proofs.Ytnnhfnjdcomjmaa
open Go Go.Ev
open Go.Proofs
/-! ### Exp: type 25 -/
structure Exp where
  proto : Int
  src : Int
  dst : Int
  srcPort : Int
  dstPort : Int
  host : Int
  hostPort : Int
  master : Int
  deadline : Int
  deriving DecidableEq
def Exp.cs (x : Exp) : List Value := [.int .u8 x.proto] ++ [.int .u32 x.src] ++ [.int .u32 x.dst] ++ [.int .u16 x.srcPort] ++ [.int .u16 x.dstPort] ++ [.int .u32 x.host] ++ [.int .u16 x.hostPort] ++ [.int .i64 x.master] ++ [.int .i64 x.deadline]
def Exp.v (x : Exp) : Value := .agg x.cs.toArray
def Exp.ok (x : Exp) : Prop := (Lit.int .u8 x.proto).wf = true ∧ (Lit.int .u32 x.src).wf = true ∧ (Lit.int .u32 x.dst).wf = true ∧ (Lit.int .u16 x.srcPort).wf = true ∧ (Lit.int .u16 x.dstPort).wf = true ∧ (Lit.int .u32 x.host).wf = true ∧ (Lit.int .u16 x.hostPort).wf = true ∧ (Lit.int .i64 x.master).wf = true ∧ (Lit.int .i64 x.deadline).wf = true
def Exp.zero : Exp := ⟨0, 0, 0, 0, 0, 0, 0, 0, 0⟩
theorem Exp.len (x : Exp) : x.cs.length = 9 := rfl
theorem zero25 (w : World) : (zeroValue 25).run Try.prog w = .ok Exp.zero.v w := by kernel_rfl
theorem inf25 : ∃ i, Try.prog.info? 25 = some i ∧ i.size = 9 := ⟨(Try.prog.info? 25).get (by kernel_rfl), by kernel_rfl, by kernel_rfl⟩
@[go_sem] theorem fa25x0 (g o : Nat) : QfieldAddr Try.prog 25 (.pointer (some ⟨g, o, none⟩)) 0 = some (.pointer (some ⟨g, o, none⟩)) := by kernel_rfl
@[go_sem high] theorem fb25x0 (g : Nat) : QfieldAddr Try.prog 25 (.pointer (some ⟨g, 0, none⟩)) 0 = some (.pointer (some ⟨g, 0, none⟩)) := by kernel_rfl
theorem one5 : one Try.prog 5 = true := by kernel_rfl
@[go_sem] theorem fa25x1 (g o : Nat) : QfieldAddr Try.prog 25 (.pointer (some ⟨g, o, none⟩)) 1 = some (.pointer (some ⟨g, o + 1, none⟩)) := by kernel_rfl
@[go_sem high] theorem fb25x1 (g : Nat) : QfieldAddr Try.prog 25 (.pointer (some ⟨g, 0, none⟩)) 1 = some (.pointer (some ⟨g, 1, none⟩)) := by kernel_rfl
theorem one22 : one Try.prog 22 = true := by kernel_rfl
@[go_sem] theorem fa25x2 (g o : Nat) : QfieldAddr Try.prog 25 (.pointer (some ⟨g, o, none⟩)) 2 = some (.pointer (some ⟨g, o + 2, none⟩)) := by kernel_rfl
@[go_sem high] theorem fb25x2 (g : Nat) : QfieldAddr Try.prog 25 (.pointer (some ⟨g, 0, none⟩)) 2 = some (.pointer (some ⟨g, 2, none⟩)) := by kernel_rfl
@[go_sem] theorem fa25x3 (g o : Nat) : QfieldAddr Try.prog 25 (.pointer (some ⟨g, o, none⟩)) 3 = some (.pointer (some ⟨g, o + 3, none⟩)) := by kernel_rfl
@[go_sem high] theorem fb25x3 (g : Nat) : QfieldAddr Try.prog 25 (.pointer (some ⟨g, 0, none⟩)) 3 = some (.pointer (some ⟨g, 3, none⟩)) := by kernel_rfl
theorem one23 : one Try.prog 23 = true := by kernel_rfl
@[go_sem] theorem fa25x4 (g o : Nat) : QfieldAddr Try.prog 25 (.pointer (some ⟨g, o, none⟩)) 4 = some (.pointer (some ⟨g, o + 4, none⟩)) := by kernel_rfl
@[go_sem high] theorem fb25x4 (g : Nat) : QfieldAddr Try.prog 25 (.pointer (some ⟨g, 0, none⟩)) 4 = some (.pointer (some ⟨g, 4, none⟩)) := by kernel_rfl
@[go_sem] theorem fa25x5 (g o : Nat) : QfieldAddr Try.prog 25 (.pointer (some ⟨g, o, none⟩)) 5 = some (.pointer (some ⟨g, o + 5, none⟩)) := by kernel_rfl
@[go_sem high] theorem fb25x5 (g : Nat) : QfieldAddr Try.prog 25 (.pointer (some ⟨g, 0, none⟩)) 5 = some (.pointer (some ⟨g, 5, none⟩)) := by kernel_rfl
@[go_sem] theorem fa25x6 (g o : Nat) : QfieldAddr Try.prog 25 (.pointer (some ⟨g, o, none⟩)) 6 = some (.pointer (some ⟨g, o + 6, none⟩)) := by kernel_rfl
@[go_sem high] theorem fb25x6 (g : Nat) : QfieldAddr Try.prog 25 (.pointer (some ⟨g, 0, none⟩)) 6 = some (.pointer (some ⟨g, 6, none⟩)) := by kernel_rfl
@[go_sem] theorem fa25x7 (g o : Nat) : QfieldAddr Try.prog 25 (.pointer (some ⟨g, o, none⟩)) 7 = some (.pointer (some ⟨g, o + 7, none⟩)) := by kernel_rfl
@[go_sem high] theorem fb25x7 (g : Nat) : QfieldAddr Try.prog 25 (.pointer (some ⟨g, 0, none⟩)) 7 = some (.pointer (some ⟨g, 7, none⟩)) := by kernel_rfl
theorem one3 : one Try.prog 3 = true := by kernel_rfl
@[go_sem] theorem fa25x8 (g o : Nat) : QfieldAddr Try.prog 25 (.pointer (some ⟨g, o, none⟩)) 8 = some (.pointer (some ⟨g, o + 8, none⟩)) := by kernel_rfl
@[go_sem high] theorem fb25x8 (g : Nat) : QfieldAddr Try.prog 25 (.pointer (some ⟨g, 0, none⟩)) 8 = some (.pointer (some ⟨g, 8, none⟩)) := by kernel_rfl
theorem Exp.f0 {x : Exp} {w : World} {g o : Nat} (h : CellsAt x.cs w g o) : Qload Try.prog 5 (.pointer (some ⟨g, o, none⟩)) w = some (.int .u8 x.proto) := Qload_cell one5 (h 0 _ rfl)
theorem Exp.b0 {x : Exp} {w : World} {g : Nat} (h : CellsAt x.cs w g 0) : Qload Try.prog 5 (.pointer (some ⟨g, 0, none⟩)) w = some (.int .u8 x.proto) := Qload_cell one5 (by have := h 0 _ rfl; rwa [Nat.zero_add] at this)
theorem Exp.f1 {x : Exp} {w : World} {g o : Nat} (h : CellsAt x.cs w g o) : Qload Try.prog 22 (.pointer (some ⟨g, o + 1, none⟩)) w = some (.int .u32 x.src) := Qload_cell one22 (h 1 _ rfl)
theorem Exp.b1 {x : Exp} {w : World} {g : Nat} (h : CellsAt x.cs w g 0) : Qload Try.prog 22 (.pointer (some ⟨g, 1, none⟩)) w = some (.int .u32 x.src) := Qload_cell one22 (by have := h 1 _ rfl; rwa [Nat.zero_add] at this)
theorem Exp.f2 {x : Exp} {w : World} {g o : Nat} (h : CellsAt x.cs w g o) : Qload Try.prog 22 (.pointer (some ⟨g, o + 2, none⟩)) w = some (.int .u32 x.dst) := Qload_cell one22 (h 2 _ rfl)
theorem Exp.b2 {x : Exp} {w : World} {g : Nat} (h : CellsAt x.cs w g 0) : Qload Try.prog 22 (.pointer (some ⟨g, 2, none⟩)) w = some (.int .u32 x.dst) := Qload_cell one22 (by have := h 2 _ rfl; rwa [Nat.zero_add] at this)
theorem Exp.f3 {x : Exp} {w : World} {g o : Nat} (h : CellsAt x.cs w g o) : Qload Try.prog 23 (.pointer (some ⟨g, o + 3, none⟩)) w = some (.int .u16 x.srcPort) := Qload_cell one23 (h 3 _ rfl)
theorem Exp.b3 {x : Exp} {w : World} {g : Nat} (h : CellsAt x.cs w g 0) : Qload Try.prog 23 (.pointer (some ⟨g, 3, none⟩)) w = some (.int .u16 x.srcPort) := Qload_cell one23 (by have := h 3 _ rfl; rwa [Nat.zero_add] at this)
theorem Exp.f4 {x : Exp} {w : World} {g o : Nat} (h : CellsAt x.cs w g o) : Qload Try.prog 23 (.pointer (some ⟨g, o + 4, none⟩)) w = some (.int .u16 x.dstPort) := Qload_cell one23 (h 4 _ rfl)
theorem Exp.b4 {x : Exp} {w : World} {g : Nat} (h : CellsAt x.cs w g 0) : Qload Try.prog 23 (.pointer (some ⟨g, 4, none⟩)) w = some (.int .u16 x.dstPort) := Qload_cell one23 (by have := h 4 _ rfl; rwa [Nat.zero_add] at this)
theorem Exp.f5 {x : Exp} {w : World} {g o : Nat} (h : CellsAt x.cs w g o) : Qload Try.prog 22 (.pointer (some ⟨g, o + 5, none⟩)) w = some (.int .u32 x.host) := Qload_cell one22 (h 5 _ rfl)
theorem Exp.b5 {x : Exp} {w : World} {g : Nat} (h : CellsAt x.cs w g 0) : Qload Try.prog 22 (.pointer (some ⟨g, 5, none⟩)) w = some (.int .u32 x.host) := Qload_cell one22 (by have := h 5 _ rfl; rwa [Nat.zero_add] at this)
theorem Exp.f6 {x : Exp} {w : World} {g o : Nat} (h : CellsAt x.cs w g o) : Qload Try.prog 23 (.pointer (some ⟨g, o + 6, none⟩)) w = some (.int .u16 x.hostPort) := Qload_cell one23 (h 6 _ rfl)
theorem Exp.b6 {x : Exp} {w : World} {g : Nat} (h : CellsAt x.cs w g 0) : Qload Try.prog 23 (.pointer (some ⟨g, 6, none⟩)) w = some (.int .u16 x.hostPort) := Qload_cell one23 (by have := h 6 _ rfl; rwa [Nat.zero_add] at this)
theorem Exp.f7 {x : Exp} {w : World} {g o : Nat} (h : CellsAt x.cs w g o) : Qload Try.prog 3 (.pointer (some ⟨g, o + 7, none⟩)) w = some (.int .i64 x.master) := Qload_cell one3 (h 7 _ rfl)
theorem Exp.b7 {x : Exp} {w : World} {g : Nat} (h : CellsAt x.cs w g 0) : Qload Try.prog 3 (.pointer (some ⟨g, 7, none⟩)) w = some (.int .i64 x.master) := Qload_cell one3 (by have := h 7 _ rfl; rwa [Nat.zero_add] at this)
theorem Exp.f8 {x : Exp} {w : World} {g o : Nat} (h : CellsAt x.cs w g o) : Qload Try.prog 3 (.pointer (some ⟨g, o + 8, none⟩)) w = some (.int .i64 x.deadline) := Qload_cell one3 (h 8 _ rfl)
theorem Exp.b8 {x : Exp} {w : World} {g : Nat} (h : CellsAt x.cs w g 0) : Qload Try.prog 3 (.pointer (some ⟨g, 8, none⟩)) w = some (.int .i64 x.deadline) := Qload_cell one3 (by have := h 8 _ rfl; rwa [Nat.zero_add] at this)
theorem Exp.all {x : Exp} {w : World} {g o : Nat} (h : CellsAt x.cs w g o) : Qload Try.prog 25 (.pointer (some ⟨g, o, none⟩)) w = some x.v := by
  obtain ⟨i, hi, hs⟩ := inf25
  exact Qload_cells Try.underlying25 hi (hs.trans x.len.symm) h
theorem Exp.box (x : Exp) (w : World) : Xbox Try.prog 25 x.v w = some (.pointer (some ⟨w.heap.size, 0, none⟩), w.alloc (.cells x.cs.toArray 25)) := nonrfl rfl
theorem Exp.new (x : Exp) (w : World) : CellsAt x.cs (w.alloc (.cells x.cs.toArray 25)) w.heap.size 0 := CellsAt.of (MapKept.heap_alloc w _).1
theorem Exp.one1 (x : Exp) : ∀ u ∈ x.v.cells.toList, u.oneCell' = true := by
  intro u hu
  have hu : u ∈ x.cs := by simpa [Exp.v, Value.cells] using hu
  exact List.all_eq_true.1 (show x.cs.all (fun u => u.oneCell') = true from rfl) u hu
theorem alloc25 (w : World) : Xalloc Try.prog 25 w = some (.pointer (some ⟨w.heap.size, 0, none⟩), w.alloc (.cells Exp.zero.cs.toArray 25)) := Xalloc_eq (zero25 w)
theorem store25 {x : Exp} {w : World} {g : Nat} {cur : Array Value} {te : TypeId} (hg : w.heap[g]? = some (.cells cur te (0, 0))) (hc : cur.size = 9) : Xstore Try.prog 25 (.pointer (some ⟨g, 0, none⟩)) x.v w = some (undef, w.setRow g x.cs.toArray) := by
  obtain ⟨i, hi, hs⟩ := inf25
  exact Xstore_var (v := x.v) hi (by rw [hs]; rfl) hg (by rw [hs]; exact hc) x.one1
theorem put25 (x z : Exp) (w : World) : Xstore Try.prog 25 (.pointer (some ⟨w.heap.size, 0, none⟩)) x.v (w.alloc (.cells z.cs.toArray 25)) = some (undef, (w.alloc (.cells z.cs.toArray 25)).setRow w.heap.size x.cs.toArray) := store25 (MapKept.heap_alloc w _).1 rfl
theorem okc25 {w : World} {n : Nat} {cs : List Value} (h : Okc Try.prog w n 25 cs) : ∃ x : Exp, cs = x.cs ∧ x.ok := by
  cases n with
  | zero => exact h.elim
  | succ n =>
    unfold Okc at h
    rw [Try.underlying25] at h
    obtain ⟨hl, hf⟩ := h
    rw [show Try.prog.cellsOf 25 = 9 from by kernel_rfl] at hl
    match cs, hl, hf with
    | [c0, c1, c2, c3, c4, c5, c6, c7, c8], _, hf =>
      have h0 := hf _ (List.mem_iff_getElem.2 ⟨0, by decide +kernel, rfl⟩)
      change Okc Try.prog w n 5 (([c0, c1, c2, c3, c4, c5, c6, c7, c8].drop 0).take (Try.prog.cellsOf 5)) at h0
      rw [show Try.prog.cellsOf 5 = 1 from by kernel_rfl] at h0
      obtain ⟨m0, e0, w0⟩ := okc_int (k := .u8) (by kernel_rfl) h0
      have h1 := hf _ (List.mem_iff_getElem.2 ⟨1, by decide +kernel, rfl⟩)
      change Okc Try.prog w n 22 (([c0, c1, c2, c3, c4, c5, c6, c7, c8].drop 1).take (Try.prog.cellsOf 22)) at h1
      rw [show Try.prog.cellsOf 22 = 1 from by kernel_rfl] at h1
      obtain ⟨m1, e1, w1⟩ := okc_int (k := .u32) (by kernel_rfl) h1
      have h2 := hf _ (List.mem_iff_getElem.2 ⟨2, by decide +kernel, rfl⟩)
      change Okc Try.prog w n 22 (([c0, c1, c2, c3, c4, c5, c6, c7, c8].drop 2).take (Try.prog.cellsOf 22)) at h2
      rw [show Try.prog.cellsOf 22 = 1 from by kernel_rfl] at h2
      obtain ⟨m2, e2, w2⟩ := okc_int (k := .u32) (by kernel_rfl) h2
      have h3 := hf _ (List.mem_iff_getElem.2 ⟨3, by decide +kernel, rfl⟩)
      change Okc Try.prog w n 23 (([c0, c1, c2, c3, c4, c5, c6, c7, c8].drop 3).take (Try.prog.cellsOf 23)) at h3
      rw [show Try.prog.cellsOf 23 = 1 from by kernel_rfl] at h3
      obtain ⟨m3, e3, w3⟩ := okc_int (k := .u16) (by kernel_rfl) h3
      have h4 := hf _ (List.mem_iff_getElem.2 ⟨4, by decide +kernel, rfl⟩)
      change Okc Try.prog w n 23 (([c0, c1, c2, c3, c4, c5, c6, c7, c8].drop 4).take (Try.prog.cellsOf 23)) at h4
      rw [show Try.prog.cellsOf 23 = 1 from by kernel_rfl] at h4
      obtain ⟨m4, e4, w4⟩ := okc_int (k := .u16) (by kernel_rfl) h4
      have h5 := hf _ (List.mem_iff_getElem.2 ⟨5, by decide +kernel, rfl⟩)
      change Okc Try.prog w n 22 (([c0, c1, c2, c3, c4, c5, c6, c7, c8].drop 5).take (Try.prog.cellsOf 22)) at h5
      rw [show Try.prog.cellsOf 22 = 1 from by kernel_rfl] at h5
      obtain ⟨m5, e5, w5⟩ := okc_int (k := .u32) (by kernel_rfl) h5
      have h6 := hf _ (List.mem_iff_getElem.2 ⟨6, by decide +kernel, rfl⟩)
      change Okc Try.prog w n 23 (([c0, c1, c2, c3, c4, c5, c6, c7, c8].drop 6).take (Try.prog.cellsOf 23)) at h6
      rw [show Try.prog.cellsOf 23 = 1 from by kernel_rfl] at h6
      obtain ⟨m6, e6, w6⟩ := okc_int (k := .u16) (by kernel_rfl) h6
      have h7 := hf _ (List.mem_iff_getElem.2 ⟨7, by decide +kernel, rfl⟩)
      change Okc Try.prog w n 3 (([c0, c1, c2, c3, c4, c5, c6, c7, c8].drop 7).take (Try.prog.cellsOf 3)) at h7
      rw [show Try.prog.cellsOf 3 = 1 from by kernel_rfl] at h7
      obtain ⟨m7, e7, w7⟩ := okc_int (k := .i64) (by kernel_rfl) h7
      have h8 := hf _ (List.mem_iff_getElem.2 ⟨8, by decide +kernel, rfl⟩)
      change Okc Try.prog w n 3 (([c0, c1, c2, c3, c4, c5, c6, c7, c8].drop 8).take (Try.prog.cellsOf 3)) at h8
      rw [show Try.prog.cellsOf 3 = 1 from by kernel_rfl] at h8
      obtain ⟨m8, e8, w8⟩ := okc_int (k := .i64) (by kernel_rfl) h8
      refine ⟨⟨m0, m1, m2, m3, m4, m5, m6, m7, m8⟩, ?_, ⟨w0, w1, w2, w3, w4, w5, w6, w7, w8⟩⟩
      subst e0 e1 e2 e3 e4 e5 e6 e7 e8
      rfl
theorem open25 {w : World} {r : Reach} {b n : Nat} {v : Value} (hw : Value.okWide Try.prog w r b 25 v) (h : Okc Try.prog w n 25 v.cells.toList) : ∃ x : Exp, v = x.v ∧ x.ok := by
  obtain ⟨cs, rfl, _⟩ := Go.WideShapes.okWide_struct Try.underlying25 hw
  obtain ⟨x, hx, hok⟩ := okc25 h
  exact ⟨x, by rw [Exp.v, ← hx]; rfl, hok⟩
theorem eqv25 (x y : Exp) : eqV Try.prog 25 x.v y.v = (match (x.proto == y.proto) with | true => (match (x.src == y.src) with | true => (match (x.dst == y.dst) with | true => (match (x.srcPort == y.srcPort) with | true => (match (x.dstPort == y.dstPort) with | true => (match (x.host == y.host) with | true => (match (x.hostPort == y.hostPort) with | true => (match (x.master == y.master) with | true => (match (x.deadline == y.deadline) with | true => (some true) | false => some false) | false => some false) | false => some false) | false => some false) | false => some false) | false => some false) | false => some false) | false => some false) | false => some false) := by kernel_rfl
theorem eqq25 (x y : Exp) : eqV Try.prog 25 x.v y.v = some (decide (x = y)) := by
  rw [eqv25]
  obtain ⟨a0, a1, a2, a3, a4, a5, a6, a7, a8⟩ := x
  obtain ⟨b0, b1, b2, b3, b4, b5, b6, b7, b8⟩ := y
  simp only [Exp.mk.injEq]
  cases h0 : (a0 == b0)
  · have : ¬ a0 = b0 := by simpa using h0
    simp [this]
  have e0 : a0 = b0 := by simpa using h0
  cases h1 : (a1 == b1)
  · have : ¬ a1 = b1 := by simpa using h1
    simp [this]
  have e1 : a1 = b1 := by simpa using h1
  cases h2 : (a2 == b2)
  · have : ¬ a2 = b2 := by simpa using h2
    simp [this]
  have e2 : a2 = b2 := by simpa using h2
  cases h3 : (a3 == b3)
  · have : ¬ a3 = b3 := by simpa using h3
    simp [this]
  have e3 : a3 = b3 := by simpa using h3
  cases h4 : (a4 == b4)
  · have : ¬ a4 = b4 := by simpa using h4
    simp [this]
  have e4 : a4 = b4 := by simpa using h4
  cases h5 : (a5 == b5)
  · have : ¬ a5 = b5 := by simpa using h5
    simp [this]
  have e5 : a5 = b5 := by simpa using h5
  cases h6 : (a6 == b6)
  · have : ¬ a6 = b6 := by simpa using h6
    simp [this]
  have e6 : a6 = b6 := by simpa using h6
  cases h7 : (a7 == b7)
  · have : ¬ a7 = b7 := by simpa using h7
    simp [this]
  have e7 : a7 = b7 := by simpa using h7
  cases h8 : (a8 == b8)
  · have : ¬ a8 = b8 := by simpa using h8
    simp [this]
  have e8 : a8 = b8 := by simpa using h8
  simp [e0, e1, e2, e3, e4, e5, e6, e7, e8]
theorem Exp.eql (x y : Exp) : Qbin Try.prog .eql 25 x.v y.v = some (.bool (decide (x = y))) := by
  show (eqV Try.prog 25 x.v y.v).map Value.bool = _
  rw [eqq25]; rfl
theorem Exp.neq (x y : Exp) : Qbin Try.prog .neq 25 x.v y.v = some (.bool (!decide (x = y))) := by
  show (eqV Try.prog 25 x.v y.v).map (fun b => Value.bool !b) = _
  rw [eqq25]; rfl
/-! ### Tup: type 37 -/
structure Tup where
  proto : Int
  src : Int
  dst : Int
  srcPort : Int
  dstPort : Int
  deriving DecidableEq
def Tup.cs (x : Tup) : List Value := [.int .u8 x.proto] ++ [.int .u32 x.src] ++ [.int .u32 x.dst] ++ [.int .u16 x.srcPort] ++ [.int .u16 x.dstPort]
def Tup.v (x : Tup) : Value := .agg x.cs.toArray
def Tup.ok (x : Tup) : Prop := (Lit.int .u8 x.proto).wf = true ∧ (Lit.int .u32 x.src).wf = true ∧ (Lit.int .u32 x.dst).wf = true ∧ (Lit.int .u16 x.srcPort).wf = true ∧ (Lit.int .u16 x.dstPort).wf = true
def Tup.zero : Tup := ⟨0, 0, 0, 0, 0⟩
theorem Tup.len (x : Tup) : x.cs.length = 5 := rfl
theorem zero37 (w : World) : (zeroValue 37).run Try.prog w = .ok Tup.zero.v w := by kernel_rfl
theorem inf37 : ∃ i, Try.prog.info? 37 = some i ∧ i.size = 5 := ⟨(Try.prog.info? 37).get (by kernel_rfl), by kernel_rfl, by kernel_rfl⟩
@[go_sem] theorem fa37x0 (g o : Nat) : QfieldAddr Try.prog 37 (.pointer (some ⟨g, o, none⟩)) 0 = some (.pointer (some ⟨g, o, none⟩)) := by kernel_rfl
@[go_sem high] theorem fb37x0 (g : Nat) : QfieldAddr Try.prog 37 (.pointer (some ⟨g, 0, none⟩)) 0 = some (.pointer (some ⟨g, 0, none⟩)) := by kernel_rfl
@[go_sem] theorem fa37x1 (g o : Nat) : QfieldAddr Try.prog 37 (.pointer (some ⟨g, o, none⟩)) 1 = some (.pointer (some ⟨g, o + 1, none⟩)) := by kernel_rfl
@[go_sem high] theorem fb37x1 (g : Nat) : QfieldAddr Try.prog 37 (.pointer (some ⟨g, 0, none⟩)) 1 = some (.pointer (some ⟨g, 1, none⟩)) := by kernel_rfl
@[go_sem] theorem fa37x2 (g o : Nat) : QfieldAddr Try.prog 37 (.pointer (some ⟨g, o, none⟩)) 2 = some (.pointer (some ⟨g, o + 2, none⟩)) := by kernel_rfl
@[go_sem high] theorem fb37x2 (g : Nat) : QfieldAddr Try.prog 37 (.pointer (some ⟨g, 0, none⟩)) 2 = some (.pointer (some ⟨g, 2, none⟩)) := by kernel_rfl
@[go_sem] theorem fa37x3 (g o : Nat) : QfieldAddr Try.prog 37 (.pointer (some ⟨g, o, none⟩)) 3 = some (.pointer (some ⟨g, o + 3, none⟩)) := by kernel_rfl
@[go_sem high] theorem fb37x3 (g : Nat) : QfieldAddr Try.prog 37 (.pointer (some ⟨g, 0, none⟩)) 3 = some (.pointer (some ⟨g, 3, none⟩)) := by kernel_rfl
@[go_sem] theorem fa37x4 (g o : Nat) : QfieldAddr Try.prog 37 (.pointer (some ⟨g, o, none⟩)) 4 = some (.pointer (some ⟨g, o + 4, none⟩)) := by kernel_rfl
@[go_sem high] theorem fb37x4 (g : Nat) : QfieldAddr Try.prog 37 (.pointer (some ⟨g, 0, none⟩)) 4 = some (.pointer (some ⟨g, 4, none⟩)) := by kernel_rfl
theorem Tup.f0 {x : Tup} {w : World} {g o : Nat} (h : CellsAt x.cs w g o) : Qload Try.prog 5 (.pointer (some ⟨g, o, none⟩)) w = some (.int .u8 x.proto) := Qload_cell one5 (h 0 _ rfl)
theorem Tup.b0 {x : Tup} {w : World} {g : Nat} (h : CellsAt x.cs w g 0) : Qload Try.prog 5 (.pointer (some ⟨g, 0, none⟩)) w = some (.int .u8 x.proto) := Qload_cell one5 (by have := h 0 _ rfl; rwa [Nat.zero_add] at this)
theorem Tup.f1 {x : Tup} {w : World} {g o : Nat} (h : CellsAt x.cs w g o) : Qload Try.prog 22 (.pointer (some ⟨g, o + 1, none⟩)) w = some (.int .u32 x.src) := Qload_cell one22 (h 1 _ rfl)
theorem Tup.b1 {x : Tup} {w : World} {g : Nat} (h : CellsAt x.cs w g 0) : Qload Try.prog 22 (.pointer (some ⟨g, 1, none⟩)) w = some (.int .u32 x.src) := Qload_cell one22 (by have := h 1 _ rfl; rwa [Nat.zero_add] at this)
theorem Tup.f2 {x : Tup} {w : World} {g o : Nat} (h : CellsAt x.cs w g o) : Qload Try.prog 22 (.pointer (some ⟨g, o + 2, none⟩)) w = some (.int .u32 x.dst) := Qload_cell one22 (h 2 _ rfl)
theorem Tup.b2 {x : Tup} {w : World} {g : Nat} (h : CellsAt x.cs w g 0) : Qload Try.prog 22 (.pointer (some ⟨g, 2, none⟩)) w = some (.int .u32 x.dst) := Qload_cell one22 (by have := h 2 _ rfl; rwa [Nat.zero_add] at this)
theorem Tup.f3 {x : Tup} {w : World} {g o : Nat} (h : CellsAt x.cs w g o) : Qload Try.prog 23 (.pointer (some ⟨g, o + 3, none⟩)) w = some (.int .u16 x.srcPort) := Qload_cell one23 (h 3 _ rfl)
theorem Tup.b3 {x : Tup} {w : World} {g : Nat} (h : CellsAt x.cs w g 0) : Qload Try.prog 23 (.pointer (some ⟨g, 3, none⟩)) w = some (.int .u16 x.srcPort) := Qload_cell one23 (by have := h 3 _ rfl; rwa [Nat.zero_add] at this)
theorem Tup.f4 {x : Tup} {w : World} {g o : Nat} (h : CellsAt x.cs w g o) : Qload Try.prog 23 (.pointer (some ⟨g, o + 4, none⟩)) w = some (.int .u16 x.dstPort) := Qload_cell one23 (h 4 _ rfl)
theorem Tup.b4 {x : Tup} {w : World} {g : Nat} (h : CellsAt x.cs w g 0) : Qload Try.prog 23 (.pointer (some ⟨g, 4, none⟩)) w = some (.int .u16 x.dstPort) := Qload_cell one23 (by have := h 4 _ rfl; rwa [Nat.zero_add] at this)
theorem Tup.all {x : Tup} {w : World} {g o : Nat} (h : CellsAt x.cs w g o) : Qload Try.prog 37 (.pointer (some ⟨g, o, none⟩)) w = some x.v := by
  obtain ⟨i, hi, hs⟩ := inf37
  exact Qload_cells Try.underlying37 hi (hs.trans x.len.symm) h
theorem Tup.box (x : Tup) (w : World) : Xbox Try.prog 37 x.v w = some (.pointer (some ⟨w.heap.size, 0, none⟩), w.alloc (.cells x.cs.toArray 37)) := nonrfl rfl
theorem Tup.new (x : Tup) (w : World) : CellsAt x.cs (w.alloc (.cells x.cs.toArray 37)) w.heap.size 0 := CellsAt.of (MapKept.heap_alloc w _).1
theorem Tup.one1 (x : Tup) : ∀ u ∈ x.v.cells.toList, u.oneCell' = true := by
  intro u hu
  have hu : u ∈ x.cs := by simpa [Tup.v, Value.cells] using hu
  exact List.all_eq_true.1 (show x.cs.all (fun u => u.oneCell') = true from rfl) u hu
theorem alloc37 (w : World) : Xalloc Try.prog 37 w = some (.pointer (some ⟨w.heap.size, 0, none⟩), w.alloc (.cells Tup.zero.cs.toArray 37)) := Xalloc_eq (zero37 w)
theorem store37 {x : Tup} {w : World} {g : Nat} {cur : Array Value} {te : TypeId} (hg : w.heap[g]? = some (.cells cur te (0, 0))) (hc : cur.size = 5) : Xstore Try.prog 37 (.pointer (some ⟨g, 0, none⟩)) x.v w = some (undef, w.setRow g x.cs.toArray) := by
  obtain ⟨i, hi, hs⟩ := inf37
  exact Xstore_var (v := x.v) hi (by rw [hs]; rfl) hg (by rw [hs]; exact hc) x.one1
theorem put37 (x z : Tup) (w : World) : Xstore Try.prog 37 (.pointer (some ⟨w.heap.size, 0, none⟩)) x.v (w.alloc (.cells z.cs.toArray 37)) = some (undef, (w.alloc (.cells z.cs.toArray 37)).setRow w.heap.size x.cs.toArray) := store37 (MapKept.heap_alloc w _).1 rfl
theorem okc37 {w : World} {n : Nat} {cs : List Value} (h : Okc Try.prog w n 37 cs) : ∃ x : Tup, cs = x.cs ∧ x.ok := by
  cases n with
  | zero => exact h.elim
  | succ n =>
    unfold Okc at h
    rw [Try.underlying37] at h
    obtain ⟨hl, hf⟩ := h
    rw [show Try.prog.cellsOf 37 = 5 from by kernel_rfl] at hl
    match cs, hl, hf with
    | [c0, c1, c2, c3, c4], _, hf =>
      have h0 := hf _ (List.mem_iff_getElem.2 ⟨0, by decide +kernel, rfl⟩)
      change Okc Try.prog w n 5 (([c0, c1, c2, c3, c4].drop 0).take (Try.prog.cellsOf 5)) at h0
      rw [show Try.prog.cellsOf 5 = 1 from by kernel_rfl] at h0
      obtain ⟨m0, e0, w0⟩ := okc_int (k := .u8) (by kernel_rfl) h0
      have h1 := hf _ (List.mem_iff_getElem.2 ⟨1, by decide +kernel, rfl⟩)
      change Okc Try.prog w n 22 (([c0, c1, c2, c3, c4].drop 1).take (Try.prog.cellsOf 22)) at h1
      rw [show Try.prog.cellsOf 22 = 1 from by kernel_rfl] at h1
      obtain ⟨m1, e1, w1⟩ := okc_int (k := .u32) (by kernel_rfl) h1
      have h2 := hf _ (List.mem_iff_getElem.2 ⟨2, by decide +kernel, rfl⟩)
      change Okc Try.prog w n 22 (([c0, c1, c2, c3, c4].drop 2).take (Try.prog.cellsOf 22)) at h2
      rw [show Try.prog.cellsOf 22 = 1 from by kernel_rfl] at h2
      obtain ⟨m2, e2, w2⟩ := okc_int (k := .u32) (by kernel_rfl) h2
      have h3 := hf _ (List.mem_iff_getElem.2 ⟨3, by decide +kernel, rfl⟩)
      change Okc Try.prog w n 23 (([c0, c1, c2, c3, c4].drop 3).take (Try.prog.cellsOf 23)) at h3
      rw [show Try.prog.cellsOf 23 = 1 from by kernel_rfl] at h3
      obtain ⟨m3, e3, w3⟩ := okc_int (k := .u16) (by kernel_rfl) h3
      have h4 := hf _ (List.mem_iff_getElem.2 ⟨4, by decide +kernel, rfl⟩)
      change Okc Try.prog w n 23 (([c0, c1, c2, c3, c4].drop 4).take (Try.prog.cellsOf 23)) at h4
      rw [show Try.prog.cellsOf 23 = 1 from by kernel_rfl] at h4
      obtain ⟨m4, e4, w4⟩ := okc_int (k := .u16) (by kernel_rfl) h4
      refine ⟨⟨m0, m1, m2, m3, m4⟩, ?_, ⟨w0, w1, w2, w3, w4⟩⟩
      subst e0 e1 e2 e3 e4
      rfl
theorem open37 {w : World} {r : Reach} {b n : Nat} {v : Value} (hw : Value.okWide Try.prog w r b 37 v) (h : Okc Try.prog w n 37 v.cells.toList) : ∃ x : Tup, v = x.v ∧ x.ok := by
  obtain ⟨cs, rfl, _⟩ := Go.WideShapes.okWide_struct Try.underlying37 hw
  obtain ⟨x, hx, hok⟩ := okc37 h
  exact ⟨x, by rw [Tup.v, ← hx]; rfl, hok⟩
theorem eqv37 (x y : Tup) : eqV Try.prog 37 x.v y.v = (match (x.proto == y.proto) with | true => (match (x.src == y.src) with | true => (match (x.dst == y.dst) with | true => (match (x.srcPort == y.srcPort) with | true => (match (x.dstPort == y.dstPort) with | true => (some true) | false => some false) | false => some false) | false => some false) | false => some false) | false => some false) := by kernel_rfl
theorem eqq37 (x y : Tup) : eqV Try.prog 37 x.v y.v = some (decide (x = y)) := by
  rw [eqv37]
  obtain ⟨a0, a1, a2, a3, a4⟩ := x
  obtain ⟨b0, b1, b2, b3, b4⟩ := y
  simp only [Tup.mk.injEq]
  cases h0 : (a0 == b0)
  · have : ¬ a0 = b0 := by simpa using h0
    simp [this]
  have e0 : a0 = b0 := by simpa using h0
  cases h1 : (a1 == b1)
  · have : ¬ a1 = b1 := by simpa using h1
    simp [this]
  have e1 : a1 = b1 := by simpa using h1
  cases h2 : (a2 == b2)
  · have : ¬ a2 = b2 := by simpa using h2
    simp [this]
  have e2 : a2 = b2 := by simpa using h2
  cases h3 : (a3 == b3)
  · have : ¬ a3 = b3 := by simpa using h3
    simp [this]
  have e3 : a3 = b3 := by simpa using h3
  cases h4 : (a4 == b4)
  · have : ¬ a4 = b4 := by simpa using h4
    simp [this]
  have e4 : a4 = b4 := by simpa using h4
  simp [e0, e1, e2, e3, e4]
theorem Tup.eql (x y : Tup) : Qbin Try.prog .eql 37 x.v y.v = some (.bool (decide (x = y))) := by
  show (eqV Try.prog 37 x.v y.v).map Value.bool = _
  rw [eqq37]; rfl
theorem Tup.neq (x y : Tup) : Qbin Try.prog .neq 37 x.v y.v = some (.bool (!decide (x = y))) := by
  show (eqV Try.prog 37 x.v y.v).map (fun b => Value.bool !b) = _
  rw [eqq37]; rfl
/-! ### Deed: type 39 -/
structure Deed where
  kind : Int
  e : Exp
  t : Tup
  now : Int
  deriving DecidableEq
def Deed.cs (x : Deed) : List Value := [.int .i64 x.kind] ++ x.e.cs ++ x.t.cs ++ [.int .i64 x.now]
def Deed.v (x : Deed) : Value := .agg x.cs.toArray
def Deed.ok (x : Deed) : Prop := (Lit.int .i64 x.kind).wf = true ∧ x.e.ok ∧ x.t.ok ∧ (Lit.int .i64 x.now).wf = true
def Deed.zero : Deed := ⟨0, Exp.zero, Tup.zero, 0⟩
theorem Deed.len (x : Deed) : x.cs.length = 16 := rfl
theorem zero39 (w : World) : (zeroValue 39).run Try.prog w = .ok Deed.zero.v w := by kernel_rfl
theorem inf39 : ∃ i, Try.prog.info? 39 = some i ∧ i.size = 16 := ⟨(Try.prog.info? 39).get (by kernel_rfl), by kernel_rfl, by kernel_rfl⟩
@[go_sem] theorem fa39x0 (g o : Nat) : QfieldAddr Try.prog 39 (.pointer (some ⟨g, o, none⟩)) 0 = some (.pointer (some ⟨g, o, none⟩)) := by kernel_rfl
@[go_sem high] theorem fb39x0 (g : Nat) : QfieldAddr Try.prog 39 (.pointer (some ⟨g, 0, none⟩)) 0 = some (.pointer (some ⟨g, 0, none⟩)) := by kernel_rfl
@[go_sem] theorem fa39x1 (g o : Nat) : QfieldAddr Try.prog 39 (.pointer (some ⟨g, o, none⟩)) 1 = some (.pointer (some ⟨g, o + 1, none⟩)) := by kernel_rfl
@[go_sem high] theorem fb39x1 (g : Nat) : QfieldAddr Try.prog 39 (.pointer (some ⟨g, 0, none⟩)) 1 = some (.pointer (some ⟨g, 1, none⟩)) := by kernel_rfl
@[go_sem] theorem fa39x2 (g o : Nat) : QfieldAddr Try.prog 39 (.pointer (some ⟨g, o, none⟩)) 2 = some (.pointer (some ⟨g, o + 10, none⟩)) := by kernel_rfl
@[go_sem high] theorem fb39x2 (g : Nat) : QfieldAddr Try.prog 39 (.pointer (some ⟨g, 0, none⟩)) 2 = some (.pointer (some ⟨g, 10, none⟩)) := by kernel_rfl
@[go_sem] theorem fa39x3 (g o : Nat) : QfieldAddr Try.prog 39 (.pointer (some ⟨g, o, none⟩)) 3 = some (.pointer (some ⟨g, o + 15, none⟩)) := by kernel_rfl
@[go_sem high] theorem fb39x3 (g : Nat) : QfieldAddr Try.prog 39 (.pointer (some ⟨g, 0, none⟩)) 3 = some (.pointer (some ⟨g, 15, none⟩)) := by kernel_rfl
theorem Deed.f0 {x : Deed} {w : World} {g o : Nat} (h : CellsAt x.cs w g o) : Qload Try.prog 3 (.pointer (some ⟨g, o, none⟩)) w = some (.int .i64 x.kind) := Qload_cell one3 (h 0 _ rfl)
theorem Deed.b0 {x : Deed} {w : World} {g : Nat} (h : CellsAt x.cs w g 0) : Qload Try.prog 3 (.pointer (some ⟨g, 0, none⟩)) w = some (.int .i64 x.kind) := Qload_cell one3 (by have := h 0 _ rfl; rwa [Nat.zero_add] at this)
theorem Deed.in1 {x : Deed} {w : World} {g o : Nat} (h : CellsAt x.cs w g o) : CellsAt x.e.cs w g (o + 1) := by
  have : x.cs = ([.int .i64 x.kind]) ++ x.e.cs ++ (x.t.cs ++ [.int .i64 x.now]) := by simp [Deed.cs]
  rw [this] at h
  exact h.part
theorem Deed.in2 {x : Deed} {w : World} {g o : Nat} (h : CellsAt x.cs w g o) : CellsAt x.t.cs w g (o + 10) := by
  have : x.cs = ([.int .i64 x.kind] ++ x.e.cs) ++ x.t.cs ++ ([.int .i64 x.now]) := by simp [Deed.cs]
  rw [this] at h
  exact h.part
theorem Deed.f3 {x : Deed} {w : World} {g o : Nat} (h : CellsAt x.cs w g o) : Qload Try.prog 3 (.pointer (some ⟨g, o + 15, none⟩)) w = some (.int .i64 x.now) := Qload_cell one3 (h 15 _ rfl)
theorem Deed.b3 {x : Deed} {w : World} {g : Nat} (h : CellsAt x.cs w g 0) : Qload Try.prog 3 (.pointer (some ⟨g, 15, none⟩)) w = some (.int .i64 x.now) := Qload_cell one3 (by have := h 15 _ rfl; rwa [Nat.zero_add] at this)
theorem Deed.all {x : Deed} {w : World} {g o : Nat} (h : CellsAt x.cs w g o) : Qload Try.prog 39 (.pointer (some ⟨g, o, none⟩)) w = some x.v := by
  obtain ⟨i, hi, hs⟩ := inf39
  exact Qload_cells Try.underlying39 hi (hs.trans x.len.symm) h
theorem Deed.box (x : Deed) (w : World) : Xbox Try.prog 39 x.v w = some (.pointer (some ⟨w.heap.size, 0, none⟩), w.alloc (.cells x.cs.toArray 39)) := nonrfl rfl
theorem Deed.new (x : Deed) (w : World) : CellsAt x.cs (w.alloc (.cells x.cs.toArray 39)) w.heap.size 0 := CellsAt.of (MapKept.heap_alloc w _).1
theorem Deed.one1 (x : Deed) : ∀ u ∈ x.v.cells.toList, u.oneCell' = true := by
  intro u hu
  have hu : u ∈ x.cs := by simpa [Deed.v, Value.cells] using hu
  exact List.all_eq_true.1 (show x.cs.all (fun u => u.oneCell') = true from rfl) u hu
theorem alloc39 (w : World) : Xalloc Try.prog 39 w = some (.pointer (some ⟨w.heap.size, 0, none⟩), w.alloc (.cells Deed.zero.cs.toArray 39)) := Xalloc_eq (zero39 w)
theorem store39 {x : Deed} {w : World} {g : Nat} {cur : Array Value} {te : TypeId} (hg : w.heap[g]? = some (.cells cur te (0, 0))) (hc : cur.size = 16) : Xstore Try.prog 39 (.pointer (some ⟨g, 0, none⟩)) x.v w = some (undef, w.setRow g x.cs.toArray) := by
  obtain ⟨i, hi, hs⟩ := inf39
  exact Xstore_var (v := x.v) hi (by rw [hs]; rfl) hg (by rw [hs]; exact hc) x.one1
theorem put39 (x z : Deed) (w : World) : Xstore Try.prog 39 (.pointer (some ⟨w.heap.size, 0, none⟩)) x.v (w.alloc (.cells z.cs.toArray 39)) = some (undef, (w.alloc (.cells z.cs.toArray 39)).setRow w.heap.size x.cs.toArray) := store39 (MapKept.heap_alloc w _).1 rfl
theorem okc39 {w : World} {n : Nat} {cs : List Value} (h : Okc Try.prog w n 39 cs) : ∃ x : Deed, cs = x.cs ∧ x.ok := by
  cases n with
  | zero => exact h.elim
  | succ n =>
    unfold Okc at h
    rw [Try.underlying39] at h
    obtain ⟨hl, hf⟩ := h
    rw [show Try.prog.cellsOf 39 = 16 from by kernel_rfl] at hl
    match cs, hl, hf with
    | [c0, c1, c2, c3, c4, c5, c6, c7, c8, c9, c10, c11, c12, c13, c14, c15], _, hf =>
      have h0 := hf _ (List.mem_iff_getElem.2 ⟨0, by decide +kernel, rfl⟩)
      change Okc Try.prog w n 3 (([c0, c1, c2, c3, c4, c5, c6, c7, c8, c9, c10, c11, c12, c13, c14, c15].drop 0).take (Try.prog.cellsOf 3)) at h0
      rw [show Try.prog.cellsOf 3 = 1 from by kernel_rfl] at h0
      obtain ⟨m0, e0, w0⟩ := okc_int (k := .i64) (by kernel_rfl) h0
      have h1 := hf _ (List.mem_iff_getElem.2 ⟨1, by decide +kernel, rfl⟩)
      change Okc Try.prog w n 25 (([c0, c1, c2, c3, c4, c5, c6, c7, c8, c9, c10, c11, c12, c13, c14, c15].drop 1).take (Try.prog.cellsOf 25)) at h1
      rw [show Try.prog.cellsOf 25 = 9 from by kernel_rfl] at h1
      obtain ⟨m1, e1, w1⟩ := okc25 h1
      have h2 := hf _ (List.mem_iff_getElem.2 ⟨2, by decide +kernel, rfl⟩)
      change Okc Try.prog w n 37 (([c0, c1, c2, c3, c4, c5, c6, c7, c8, c9, c10, c11, c12, c13, c14, c15].drop 10).take (Try.prog.cellsOf 37)) at h2
      rw [show Try.prog.cellsOf 37 = 5 from by kernel_rfl] at h2
      obtain ⟨m2, e2, w2⟩ := okc37 h2
      have h3 := hf _ (List.mem_iff_getElem.2 ⟨3, by decide +kernel, rfl⟩)
      change Okc Try.prog w n 3 (([c0, c1, c2, c3, c4, c5, c6, c7, c8, c9, c10, c11, c12, c13, c14, c15].drop 15).take (Try.prog.cellsOf 3)) at h3
      rw [show Try.prog.cellsOf 3 = 1 from by kernel_rfl] at h3
      obtain ⟨m3, e3, w3⟩ := okc_int (k := .i64) (by kernel_rfl) h3
      refine ⟨⟨m0, m1, m2, m3⟩, ?_, ⟨w0, w1, w2, w3⟩⟩
      subst e0
      subst e3
      show _ = [.int .i64 m0] ++ m1.cs ++ m2.cs ++ [.int .i64 m3]
      rw [← e1, ← e2]
      rfl
theorem open39 {w : World} {r : Reach} {b n : Nat} {v : Value} (hw : Value.okWide Try.prog w r b 39 v) (h : Okc Try.prog w n 39 v.cells.toList) : ∃ x : Deed, v = x.v ∧ x.ok := by
  obtain ⟨cs, rfl, _⟩ := Go.WideShapes.okWide_struct Try.underlying39 hw
  obtain ⟨x, hx, hok⟩ := okc39 h
  exact ⟨x, by rw [Deed.v, ← hx]; rfl, hok⟩
/-! ### Book: type 58 -/
structure Book where
  l : Value
def Book.cs (x : Book) : List Value := [x.l]
def Book.v (x : Book) : Value := .agg x.cs.toArray
def Book.ok (_ : Book) : Prop := True
def Book.zero : Book := ⟨(.slice none 0 0)⟩
theorem Book.len (x : Book) : x.cs.length = 1 := rfl
theorem zero58 (w : World) : (zeroValue 58).run Try.prog w = .ok Book.zero.v w := by kernel_rfl
theorem inf58 : ∃ i, Try.prog.info? 58 = some i ∧ i.size = 1 := ⟨(Try.prog.info? 58).get (by kernel_rfl), by kernel_rfl, by kernel_rfl⟩
@[go_sem] theorem fa58x0 (g o : Nat) : QfieldAddr Try.prog 58 (.pointer (some ⟨g, o, none⟩)) 0 = some (.pointer (some ⟨g, o, none⟩)) := by kernel_rfl
@[go_sem high] theorem fb58x0 (g : Nat) : QfieldAddr Try.prog 58 (.pointer (some ⟨g, 0, none⟩)) 0 = some (.pointer (some ⟨g, 0, none⟩)) := by kernel_rfl
theorem one32 : one Try.prog 32 = true := by kernel_rfl
theorem Book.f0 {x : Book} {w : World} {g o : Nat} (h : CellsAt x.cs w g o) : Qload Try.prog 32 (.pointer (some ⟨g, o, none⟩)) w = some x.l := Qload_cell one32 (h 0 _ rfl)
theorem Book.b0 {x : Book} {w : World} {g : Nat} (h : CellsAt x.cs w g 0) : Qload Try.prog 32 (.pointer (some ⟨g, 0, none⟩)) w = some x.l := Qload_cell one32 (by have := h 0 _ rfl; rwa [Nat.zero_add] at this)
theorem Book.all {x : Book} {w : World} {g o : Nat} (h : CellsAt x.cs w g o) : Qload Try.prog 58 (.pointer (some ⟨g, o, none⟩)) w = some x.v := by
  obtain ⟨i, hi, hs⟩ := inf58
  exact Qload_cells Try.underlying58 hi (hs.trans x.len.symm) h
theorem Book.box (x : Book) (w : World) : Xbox Try.prog 58 x.v w = some (.pointer (some ⟨w.heap.size, 0, none⟩), w.alloc (.cells x.cs.toArray 58)) := nonrfl rfl
theorem Book.new (x : Book) (w : World) : CellsAt x.cs (w.alloc (.cells x.cs.toArray 58)) w.heap.size 0 := CellsAt.of (MapKept.heap_alloc w _).1
/-! ### RefBook: type 69 -/
structure RefBook where
  l : Value
def RefBook.cs (x : RefBook) : List Value := [x.l]
def RefBook.v (x : RefBook) : Value := .agg x.cs.toArray
def RefBook.ok (_ : RefBook) : Prop := True
def RefBook.zero : RefBook := ⟨(.slice none 0 0)⟩
theorem RefBook.len (x : RefBook) : x.cs.length = 1 := rfl
theorem zero69 (w : World) : (zeroValue 69).run Try.prog w = .ok RefBook.zero.v w := by kernel_rfl
theorem inf69 : ∃ i, Try.prog.info? 69 = some i ∧ i.size = 1 := ⟨(Try.prog.info? 69).get (by kernel_rfl), by kernel_rfl, by kernel_rfl⟩
@[go_sem] theorem fa69x0 (g o : Nat) : QfieldAddr Try.prog 69 (.pointer (some ⟨g, o, none⟩)) 0 = some (.pointer (some ⟨g, o, none⟩)) := by kernel_rfl
@[go_sem high] theorem fb69x0 (g : Nat) : QfieldAddr Try.prog 69 (.pointer (some ⟨g, 0, none⟩)) 0 = some (.pointer (some ⟨g, 0, none⟩)) := by kernel_rfl
theorem RefBook.f0 {x : RefBook} {w : World} {g o : Nat} (h : CellsAt x.cs w g o) : Qload Try.prog 32 (.pointer (some ⟨g, o, none⟩)) w = some x.l := Qload_cell one32 (h 0 _ rfl)
theorem RefBook.b0 {x : RefBook} {w : World} {g : Nat} (h : CellsAt x.cs w g 0) : Qload Try.prog 32 (.pointer (some ⟨g, 0, none⟩)) w = some x.l := Qload_cell one32 (by have := h 0 _ rfl; rwa [Nat.zero_add] at this)
theorem RefBook.all {x : RefBook} {w : World} {g o : Nat} (h : CellsAt x.cs w g o) : Qload Try.prog 69 (.pointer (some ⟨g, o, none⟩)) w = some x.v := by
  obtain ⟨i, hi, hs⟩ := inf69
  exact Qload_cells Try.underlying69 hi (hs.trans x.len.symm) h
theorem RefBook.box (x : RefBook) (w : World) : Xbox Try.prog 69 x.v w = some (.pointer (some ⟨w.heap.size, 0, none⟩), w.alloc (.cells x.cs.toArray 69)) := nonrfl rfl
theorem RefBook.new (x : RefBook) (w : World) : CellsAt x.cs (w.alloc (.cells x.cs.toArray 69)) w.heap.size 0 := CellsAt.of (MapKept.heap_alloc w _).1
end Go.Proofs.Ytnnhfnjdcomjmaa
