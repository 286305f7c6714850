/- Structs of the package, as Lean structures. -/
import Derived.Test.YtiioaklogbjhhaaFd
import Derived.Test.YtiioaklogbjhhaaFn
namespace Go.Proofs.Ytiioaklogbjhhaa
open Go Go.Ev
open Go.Proofs
/-! ### Rule: type 26 -/
structure Rule where
  kind : Int
  proto : Int
  net : Int
  bits : Int
  to_ : Int
  port : Int
  host : Int
  hostPort : Int
  deriving DecidableEq
def Rule.cs (x : Rule) : List Value := [.int .i64 x.kind] ++ [.int .u8 x.proto] ++ [.int .u32 x.net] ++ [.int .i64 x.bits] ++ [.int .u32 x.to_] ++ [.int .u16 x.port] ++ [.int .u32 x.host] ++ [.int .u16 x.hostPort]
def Rule.v (x : Rule) : Value := .agg x.cs.toArray
def Rule.ok (x : Rule) : Prop := (Lit.int .i64 x.kind).wf = true ∧ (Lit.int .u8 x.proto).wf = true ∧ (Lit.int .u32 x.net).wf = true ∧ (Lit.int .i64 x.bits).wf = true ∧ (Lit.int .u32 x.to_).wf = true ∧ (Lit.int .u16 x.port).wf = true ∧ (Lit.int .u32 x.host).wf = true ∧ (Lit.int .u16 x.hostPort).wf = true
def Rule.zero : Rule := ⟨0, 0, 0, 0, 0, 0, 0, 0⟩
theorem Rule.len (x : Rule) : x.cs.length = 8 := rfl
theorem zero26 (w : World) : (zeroValue 26).run Try.prog w = .ok Rule.zero.v w := by kernel_rfl
theorem inf26 : ∃ i, Try.prog.info? 26 = some i ∧ i.size = 8 := ⟨(Try.prog.info? 26).get (by kernel_rfl), by kernel_rfl, by kernel_rfl⟩
@[go_sem] theorem fa26x0 (g o : Nat) : QfieldAddr Try.prog 26 (.pointer (some ⟨g, o, none⟩)) 0 = some (.pointer (some ⟨g, o, none⟩)) := by kernel_rfl
@[go_sem high] theorem fb26x0 (g : Nat) : QfieldAddr Try.prog 26 (.pointer (some ⟨g, 0, none⟩)) 0 = some (.pointer (some ⟨g, 0, none⟩)) := by kernel_rfl
theorem one22 : one Try.prog 22 = true := by kernel_rfl
@[go_sem] theorem fa26x1 (g o : Nat) : QfieldAddr Try.prog 26 (.pointer (some ⟨g, o, none⟩)) 1 = some (.pointer (some ⟨g, o + 1, none⟩)) := by kernel_rfl
@[go_sem high] theorem fb26x1 (g : Nat) : QfieldAddr Try.prog 26 (.pointer (some ⟨g, 0, none⟩)) 1 = some (.pointer (some ⟨g, 1, none⟩)) := by kernel_rfl
theorem one5 : one Try.prog 5 = true := by kernel_rfl
@[go_sem] theorem fa26x2 (g o : Nat) : QfieldAddr Try.prog 26 (.pointer (some ⟨g, o, none⟩)) 2 = some (.pointer (some ⟨g, o + 2, none⟩)) := by kernel_rfl
@[go_sem high] theorem fb26x2 (g : Nat) : QfieldAddr Try.prog 26 (.pointer (some ⟨g, 0, none⟩)) 2 = some (.pointer (some ⟨g, 2, none⟩)) := by kernel_rfl
theorem one23 : one Try.prog 23 = true := by kernel_rfl
@[go_sem] theorem fa26x3 (g o : Nat) : QfieldAddr Try.prog 26 (.pointer (some ⟨g, o, none⟩)) 3 = some (.pointer (some ⟨g, o + 3, none⟩)) := by kernel_rfl
@[go_sem high] theorem fb26x3 (g : Nat) : QfieldAddr Try.prog 26 (.pointer (some ⟨g, 0, none⟩)) 3 = some (.pointer (some ⟨g, 3, none⟩)) := by kernel_rfl
theorem one3 : one Try.prog 3 = true := by kernel_rfl
@[go_sem] theorem fa26x4 (g o : Nat) : QfieldAddr Try.prog 26 (.pointer (some ⟨g, o, none⟩)) 4 = some (.pointer (some ⟨g, o + 4, none⟩)) := by kernel_rfl
@[go_sem high] theorem fb26x4 (g : Nat) : QfieldAddr Try.prog 26 (.pointer (some ⟨g, 0, none⟩)) 4 = some (.pointer (some ⟨g, 4, none⟩)) := by kernel_rfl
@[go_sem] theorem fa26x5 (g o : Nat) : QfieldAddr Try.prog 26 (.pointer (some ⟨g, o, none⟩)) 5 = some (.pointer (some ⟨g, o + 5, none⟩)) := by kernel_rfl
@[go_sem high] theorem fb26x5 (g : Nat) : QfieldAddr Try.prog 26 (.pointer (some ⟨g, 0, none⟩)) 5 = some (.pointer (some ⟨g, 5, none⟩)) := by kernel_rfl
theorem one24 : one Try.prog 24 = true := by kernel_rfl
@[go_sem] theorem fa26x6 (g o : Nat) : QfieldAddr Try.prog 26 (.pointer (some ⟨g, o, none⟩)) 6 = some (.pointer (some ⟨g, o + 6, none⟩)) := by kernel_rfl
@[go_sem high] theorem fb26x6 (g : Nat) : QfieldAddr Try.prog 26 (.pointer (some ⟨g, 0, none⟩)) 6 = some (.pointer (some ⟨g, 6, none⟩)) := by kernel_rfl
@[go_sem] theorem fa26x7 (g o : Nat) : QfieldAddr Try.prog 26 (.pointer (some ⟨g, o, none⟩)) 7 = some (.pointer (some ⟨g, o + 7, none⟩)) := by kernel_rfl
@[go_sem high] theorem fb26x7 (g : Nat) : QfieldAddr Try.prog 26 (.pointer (some ⟨g, 0, none⟩)) 7 = some (.pointer (some ⟨g, 7, none⟩)) := by kernel_rfl
theorem Rule.f0 {x : Rule} {w : World} {g o : Nat} (h : CellsAt x.cs w g o) : Qload Try.prog 22 (.pointer (some ⟨g, o, none⟩)) w = some (.int .i64 x.kind) := Qload_cell one22 (h 0 _ rfl)
theorem Rule.b0 {x : Rule} {w : World} {g : Nat} (h : CellsAt x.cs w g 0) : Qload Try.prog 22 (.pointer (some ⟨g, 0, none⟩)) w = some (.int .i64 x.kind) := Qload_cell one22 (by have := h 0 _ rfl; rwa [Nat.zero_add] at this)
theorem Rule.f1 {x : Rule} {w : World} {g o : Nat} (h : CellsAt x.cs w g o) : Qload Try.prog 5 (.pointer (some ⟨g, o + 1, none⟩)) w = some (.int .u8 x.proto) := Qload_cell one5 (h 1 _ rfl)
theorem Rule.b1 {x : Rule} {w : World} {g : Nat} (h : CellsAt x.cs w g 0) : Qload Try.prog 5 (.pointer (some ⟨g, 1, none⟩)) w = some (.int .u8 x.proto) := Qload_cell one5 (by have := h 1 _ rfl; rwa [Nat.zero_add] at this)
theorem Rule.f2 {x : Rule} {w : World} {g o : Nat} (h : CellsAt x.cs w g o) : Qload Try.prog 23 (.pointer (some ⟨g, o + 2, none⟩)) w = some (.int .u32 x.net) := Qload_cell one23 (h 2 _ rfl)
theorem Rule.b2 {x : Rule} {w : World} {g : Nat} (h : CellsAt x.cs w g 0) : Qload Try.prog 23 (.pointer (some ⟨g, 2, none⟩)) w = some (.int .u32 x.net) := Qload_cell one23 (by have := h 2 _ rfl; rwa [Nat.zero_add] at this)
theorem Rule.f3 {x : Rule} {w : World} {g o : Nat} (h : CellsAt x.cs w g o) : Qload Try.prog 3 (.pointer (some ⟨g, o + 3, none⟩)) w = some (.int .i64 x.bits) := Qload_cell one3 (h 3 _ rfl)
theorem Rule.b3 {x : Rule} {w : World} {g : Nat} (h : CellsAt x.cs w g 0) : Qload Try.prog 3 (.pointer (some ⟨g, 3, none⟩)) w = some (.int .i64 x.bits) := Qload_cell one3 (by have := h 3 _ rfl; rwa [Nat.zero_add] at this)
theorem Rule.f4 {x : Rule} {w : World} {g o : Nat} (h : CellsAt x.cs w g o) : Qload Try.prog 23 (.pointer (some ⟨g, o + 4, none⟩)) w = some (.int .u32 x.to_) := Qload_cell one23 (h 4 _ rfl)
theorem Rule.b4 {x : Rule} {w : World} {g : Nat} (h : CellsAt x.cs w g 0) : Qload Try.prog 23 (.pointer (some ⟨g, 4, none⟩)) w = some (.int .u32 x.to_) := Qload_cell one23 (by have := h 4 _ rfl; rwa [Nat.zero_add] at this)
theorem Rule.f5 {x : Rule} {w : World} {g o : Nat} (h : CellsAt x.cs w g o) : Qload Try.prog 24 (.pointer (some ⟨g, o + 5, none⟩)) w = some (.int .u16 x.port) := Qload_cell one24 (h 5 _ rfl)
theorem Rule.b5 {x : Rule} {w : World} {g : Nat} (h : CellsAt x.cs w g 0) : Qload Try.prog 24 (.pointer (some ⟨g, 5, none⟩)) w = some (.int .u16 x.port) := Qload_cell one24 (by have := h 5 _ rfl; rwa [Nat.zero_add] at this)
theorem Rule.f6 {x : Rule} {w : World} {g o : Nat} (h : CellsAt x.cs w g o) : Qload Try.prog 23 (.pointer (some ⟨g, o + 6, none⟩)) w = some (.int .u32 x.host) := Qload_cell one23 (h 6 _ rfl)
theorem Rule.b6 {x : Rule} {w : World} {g : Nat} (h : CellsAt x.cs w g 0) : Qload Try.prog 23 (.pointer (some ⟨g, 6, none⟩)) w = some (.int .u32 x.host) := Qload_cell one23 (by have := h 6 _ rfl; rwa [Nat.zero_add] at this)
theorem Rule.f7 {x : Rule} {w : World} {g o : Nat} (h : CellsAt x.cs w g o) : Qload Try.prog 24 (.pointer (some ⟨g, o + 7, none⟩)) w = some (.int .u16 x.hostPort) := Qload_cell one24 (h 7 _ rfl)
theorem Rule.b7 {x : Rule} {w : World} {g : Nat} (h : CellsAt x.cs w g 0) : Qload Try.prog 24 (.pointer (some ⟨g, 7, none⟩)) w = some (.int .u16 x.hostPort) := Qload_cell one24 (by have := h 7 _ rfl; rwa [Nat.zero_add] at this)
theorem Rule.all {x : Rule} {w : World} {g o : Nat} (h : CellsAt x.cs w g o) : Qload Try.prog 26 (.pointer (some ⟨g, o, none⟩)) w = some x.v := by
  obtain ⟨i, hi, hs⟩ := inf26
  exact Qload_cells Try.underlying26 hi (hs.trans x.len.symm) h
theorem Rule.box (x : Rule) (w : World) : Xbox Try.prog 26 x.v w = some (.pointer (some ⟨w.heap.size, 0, none⟩), w.alloc (.cells x.cs.toArray 26)) := nonrfl rfl
theorem Rule.new (x : Rule) (w : World) : CellsAt x.cs (w.alloc (.cells x.cs.toArray 26)) w.heap.size 0 := CellsAt.of (MapKept.heap_alloc w _).1
theorem Rule.one1 (x : Rule) : ∀ u ∈ x.v.cells.toList, u.oneCell' = true := by
  intro u hu
  have hu : u ∈ x.cs := by simpa [Rule.v, Value.cells] using hu
  exact List.all_eq_true.1 (show x.cs.all (fun u => u.oneCell') = true from rfl) u hu
theorem alloc26 (w : World) : Xalloc Try.prog 26 w = some (.pointer (some ⟨w.heap.size, 0, none⟩), w.alloc (.cells Rule.zero.cs.toArray 26)) := Xalloc_eq (zero26 w)
theorem store26 {x : Rule} {w : World} {g : Nat} {cur : Array Value} {te : TypeId} (hg : w.heap[g]? = some (.cells cur te (0, 0))) (hc : cur.size = 8) : Xstore Try.prog 26 (.pointer (some ⟨g, 0, none⟩)) x.v w = some (undef, w.setRow g x.cs.toArray) := by
  obtain ⟨i, hi, hs⟩ := inf26
  exact Xstore_var (v := x.v) hi (by rw [hs]; rfl) hg (by rw [hs]; exact hc) x.one1
theorem put26 (x z : Rule) (w : World) : Xstore Try.prog 26 (.pointer (some ⟨w.heap.size, 0, none⟩)) x.v (w.alloc (.cells z.cs.toArray 26)) = some (undef, (w.alloc (.cells z.cs.toArray 26)).setRow w.heap.size x.cs.toArray) := store26 (MapKept.heap_alloc w _).1 rfl
theorem okc26 {w : World} {n : Nat} {cs : List Value} (h : Okc Try.prog w n 26 cs) : ∃ x : Rule, cs = x.cs ∧ x.ok := by
  cases n with
  | zero => exact h.elim
  | succ n =>
    unfold Okc at h
    rw [Try.underlying26] at h
    obtain ⟨hl, hf⟩ := h
    rw [show Try.prog.cellsOf 26 = 8 from by kernel_rfl] at hl
    match cs, hl, hf with
    | [c0, c1, c2, c3, c4, c5, c6, c7], _, hf =>
      have h0 := hf _ (List.mem_iff_getElem.2 ⟨0, by decide +kernel, rfl⟩)
      change Okc Try.prog w n 22 (([c0, c1, c2, c3, c4, c5, c6, c7].drop 0).take (Try.prog.cellsOf 22)) at h0
      rw [show Try.prog.cellsOf 22 = 1 from by kernel_rfl] at h0
      obtain ⟨m0, e0, w0⟩ := okc_int (k := .i64) (by kernel_rfl) h0
      have h1 := hf _ (List.mem_iff_getElem.2 ⟨1, by decide +kernel, rfl⟩)
      change Okc Try.prog w n 5 (([c0, c1, c2, c3, c4, c5, c6, c7].drop 1).take (Try.prog.cellsOf 5)) at h1
      rw [show Try.prog.cellsOf 5 = 1 from by kernel_rfl] at h1
      obtain ⟨m1, e1, w1⟩ := okc_int (k := .u8) (by kernel_rfl) h1
      have h2 := hf _ (List.mem_iff_getElem.2 ⟨2, by decide +kernel, rfl⟩)
      change Okc Try.prog w n 23 (([c0, c1, c2, c3, c4, c5, c6, c7].drop 2).take (Try.prog.cellsOf 23)) at h2
      rw [show Try.prog.cellsOf 23 = 1 from by kernel_rfl] at h2
      obtain ⟨m2, e2, w2⟩ := okc_int (k := .u32) (by kernel_rfl) h2
      have h3 := hf _ (List.mem_iff_getElem.2 ⟨3, by decide +kernel, rfl⟩)
      change Okc Try.prog w n 3 (([c0, c1, c2, c3, c4, c5, c6, c7].drop 3).take (Try.prog.cellsOf 3)) at h3
      rw [show Try.prog.cellsOf 3 = 1 from by kernel_rfl] at h3
      obtain ⟨m3, e3, w3⟩ := okc_int (k := .i64) (by kernel_rfl) h3
      have h4 := hf _ (List.mem_iff_getElem.2 ⟨4, by decide +kernel, rfl⟩)
      change Okc Try.prog w n 23 (([c0, c1, c2, c3, c4, c5, c6, c7].drop 4).take (Try.prog.cellsOf 23)) at h4
      rw [show Try.prog.cellsOf 23 = 1 from by kernel_rfl] at h4
      obtain ⟨m4, e4, w4⟩ := okc_int (k := .u32) (by kernel_rfl) h4
      have h5 := hf _ (List.mem_iff_getElem.2 ⟨5, by decide +kernel, rfl⟩)
      change Okc Try.prog w n 24 (([c0, c1, c2, c3, c4, c5, c6, c7].drop 5).take (Try.prog.cellsOf 24)) at h5
      rw [show Try.prog.cellsOf 24 = 1 from by kernel_rfl] at h5
      obtain ⟨m5, e5, w5⟩ := okc_int (k := .u16) (by kernel_rfl) h5
      have h6 := hf _ (List.mem_iff_getElem.2 ⟨6, by decide +kernel, rfl⟩)
      change Okc Try.prog w n 23 (([c0, c1, c2, c3, c4, c5, c6, c7].drop 6).take (Try.prog.cellsOf 23)) at h6
      rw [show Try.prog.cellsOf 23 = 1 from by kernel_rfl] at h6
      obtain ⟨m6, e6, w6⟩ := okc_int (k := .u32) (by kernel_rfl) h6
      have h7 := hf _ (List.mem_iff_getElem.2 ⟨7, by decide +kernel, rfl⟩)
      change Okc Try.prog w n 24 (([c0, c1, c2, c3, c4, c5, c6, c7].drop 7).take (Try.prog.cellsOf 24)) at h7
      rw [show Try.prog.cellsOf 24 = 1 from by kernel_rfl] at h7
      obtain ⟨m7, e7, w7⟩ := okc_int (k := .u16) (by kernel_rfl) h7
      refine ⟨⟨m0, m1, m2, m3, m4, m5, m6, m7⟩, ?_, ⟨w0, w1, w2, w3, w4, w5, w6, w7⟩⟩
      subst e0 e1 e2 e3 e4 e5 e6 e7
      rfl
theorem open26 {w : World} {r : Reach} {b n : Nat} {v : Value} (hw : Value.okWide Try.prog w r b 26 v) (h : Okc Try.prog w n 26 v.cells.toList) : ∃ x : Rule, v = x.v ∧ x.ok := by
  obtain ⟨cs, rfl, _⟩ := Go.WideShapes.okWide_struct Try.underlying26 hw
  obtain ⟨x, hx, hok⟩ := okc26 h
  exact ⟨x, by rw [Rule.v, ← hx]; rfl, hok⟩
theorem eqv26 (x y : Rule) : eqV Try.prog 26 x.v y.v = (match (x.kind == y.kind) with | true => (match (x.proto == y.proto) with | true => (match (x.net == y.net) with | true => (match (x.bits == y.bits) with | true => (match (x.to_ == y.to_) with | true => (match (x.port == y.port) with | true => (match (x.host == y.host) with | true => (match (x.hostPort == y.hostPort) with | true => (some true) | false => some false) | false => some false) | false => some false) | false => some false) | false => some false) | false => some false) | false => some false) | false => some false) := by kernel_rfl
theorem eqq26 (x y : Rule) : eqV Try.prog 26 x.v y.v = some (decide (x = y)) := by
  rw [eqv26]
  obtain ⟨a0, a1, a2, a3, a4, a5, a6, a7⟩ := x
  obtain ⟨b0, b1, b2, b3, b4, b5, b6, b7⟩ := y
  simp only [Rule.mk.injEq]
  cases h0 : (a0 == b0)
  · have : ¬ a0 = b0 := by simpa using h0
    simp [this]
  have e0 : a0 = b0 := by simpa using h0
  cases h1 : (a1 == b1)
  · have : ¬ a1 = b1 := by simpa using h1
    simp [this]
  have e1 : a1 = b1 := by simpa using h1
  cases h2 : (a2 == b2)
  · have : ¬ a2 = b2 := by simpa using h2
    simp [this]
  have e2 : a2 = b2 := by simpa using h2
  cases h3 : (a3 == b3)
  · have : ¬ a3 = b3 := by simpa using h3
    simp [this]
  have e3 : a3 = b3 := by simpa using h3
  cases h4 : (a4 == b4)
  · have : ¬ a4 = b4 := by simpa using h4
    simp [this]
  have e4 : a4 = b4 := by simpa using h4
  cases h5 : (a5 == b5)
  · have : ¬ a5 = b5 := by simpa using h5
    simp [this]
  have e5 : a5 = b5 := by simpa using h5
  cases h6 : (a6 == b6)
  · have : ¬ a6 = b6 := by simpa using h6
    simp [this]
  have e6 : a6 = b6 := by simpa using h6
  cases h7 : (a7 == b7)
  · have : ¬ a7 = b7 := by simpa using h7
    simp [this]
  have e7 : a7 = b7 := by simpa using h7
  simp [e0, e1, e2, e3, e4, e5, e6, e7]
theorem Rule.eql (x y : Rule) : Qbin Try.prog .eql 26 x.v y.v = some (.bool (decide (x = y))) := by
  show (eqV Try.prog 26 x.v y.v).map Value.bool = _
  rw [eqq26]; rfl
theorem Rule.neq (x y : Rule) : Qbin Try.prog .neq 26 x.v y.v = some (.bool (!decide (x = y))) := by
  show (eqV Try.prog 26 x.v y.v).map (fun b => Value.bool !b) = _
  rw [eqq26]; rfl
/-! ### Ask: type 37 -/
structure Ask where
  src : Int
  proto : Int
  dst : Int
  port : Int
  deriving DecidableEq
def Ask.cs (x : Ask) : List Value := [.int .u32 x.src] ++ [.int .u8 x.proto] ++ [.int .u32 x.dst] ++ [.int .u16 x.port]
def Ask.v (x : Ask) : Value := .agg x.cs.toArray
def Ask.ok (x : Ask) : Prop := (Lit.int .u32 x.src).wf = true ∧ (Lit.int .u8 x.proto).wf = true ∧ (Lit.int .u32 x.dst).wf = true ∧ (Lit.int .u16 x.port).wf = true
def Ask.zero : Ask := ⟨0, 0, 0, 0⟩
theorem Ask.len (x : Ask) : x.cs.length = 4 := rfl
theorem zero37 (w : World) : (zeroValue 37).run Try.prog w = .ok Ask.zero.v w := by kernel_rfl
theorem inf37 : ∃ i, Try.prog.info? 37 = some i ∧ i.size = 4 := ⟨(Try.prog.info? 37).get (by kernel_rfl), by kernel_rfl, by kernel_rfl⟩
@[go_sem] theorem fa37x0 (g o : Nat) : QfieldAddr Try.prog 37 (.pointer (some ⟨g, o, none⟩)) 0 = some (.pointer (some ⟨g, o, none⟩)) := by kernel_rfl
@[go_sem high] theorem fb37x0 (g : Nat) : QfieldAddr Try.prog 37 (.pointer (some ⟨g, 0, none⟩)) 0 = some (.pointer (some ⟨g, 0, none⟩)) := by kernel_rfl
@[go_sem] theorem fa37x1 (g o : Nat) : QfieldAddr Try.prog 37 (.pointer (some ⟨g, o, none⟩)) 1 = some (.pointer (some ⟨g, o + 1, none⟩)) := by kernel_rfl
@[go_sem high] theorem fb37x1 (g : Nat) : QfieldAddr Try.prog 37 (.pointer (some ⟨g, 0, none⟩)) 1 = some (.pointer (some ⟨g, 1, none⟩)) := by kernel_rfl
@[go_sem] theorem fa37x2 (g o : Nat) : QfieldAddr Try.prog 37 (.pointer (some ⟨g, o, none⟩)) 2 = some (.pointer (some ⟨g, o + 2, none⟩)) := by kernel_rfl
@[go_sem high] theorem fb37x2 (g : Nat) : QfieldAddr Try.prog 37 (.pointer (some ⟨g, 0, none⟩)) 2 = some (.pointer (some ⟨g, 2, none⟩)) := by kernel_rfl
@[go_sem] theorem fa37x3 (g o : Nat) : QfieldAddr Try.prog 37 (.pointer (some ⟨g, o, none⟩)) 3 = some (.pointer (some ⟨g, o + 3, none⟩)) := by kernel_rfl
@[go_sem high] theorem fb37x3 (g : Nat) : QfieldAddr Try.prog 37 (.pointer (some ⟨g, 0, none⟩)) 3 = some (.pointer (some ⟨g, 3, none⟩)) := by kernel_rfl
theorem Ask.f0 {x : Ask} {w : World} {g o : Nat} (h : CellsAt x.cs w g o) : Qload Try.prog 23 (.pointer (some ⟨g, o, none⟩)) w = some (.int .u32 x.src) := Qload_cell one23 (h 0 _ rfl)
theorem Ask.b0 {x : Ask} {w : World} {g : Nat} (h : CellsAt x.cs w g 0) : Qload Try.prog 23 (.pointer (some ⟨g, 0, none⟩)) w = some (.int .u32 x.src) := Qload_cell one23 (by have := h 0 _ rfl; rwa [Nat.zero_add] at this)
theorem Ask.f1 {x : Ask} {w : World} {g o : Nat} (h : CellsAt x.cs w g o) : Qload Try.prog 5 (.pointer (some ⟨g, o + 1, none⟩)) w = some (.int .u8 x.proto) := Qload_cell one5 (h 1 _ rfl)
theorem Ask.b1 {x : Ask} {w : World} {g : Nat} (h : CellsAt x.cs w g 0) : Qload Try.prog 5 (.pointer (some ⟨g, 1, none⟩)) w = some (.int .u8 x.proto) := Qload_cell one5 (by have := h 1 _ rfl; rwa [Nat.zero_add] at this)
theorem Ask.f2 {x : Ask} {w : World} {g o : Nat} (h : CellsAt x.cs w g o) : Qload Try.prog 23 (.pointer (some ⟨g, o + 2, none⟩)) w = some (.int .u32 x.dst) := Qload_cell one23 (h 2 _ rfl)
theorem Ask.b2 {x : Ask} {w : World} {g : Nat} (h : CellsAt x.cs w g 0) : Qload Try.prog 23 (.pointer (some ⟨g, 2, none⟩)) w = some (.int .u32 x.dst) := Qload_cell one23 (by have := h 2 _ rfl; rwa [Nat.zero_add] at this)
theorem Ask.f3 {x : Ask} {w : World} {g o : Nat} (h : CellsAt x.cs w g o) : Qload Try.prog 24 (.pointer (some ⟨g, o + 3, none⟩)) w = some (.int .u16 x.port) := Qload_cell one24 (h 3 _ rfl)
theorem Ask.b3 {x : Ask} {w : World} {g : Nat} (h : CellsAt x.cs w g 0) : Qload Try.prog 24 (.pointer (some ⟨g, 3, none⟩)) w = some (.int .u16 x.port) := Qload_cell one24 (by have := h 3 _ rfl; rwa [Nat.zero_add] at this)
theorem Ask.all {x : Ask} {w : World} {g o : Nat} (h : CellsAt x.cs w g o) : Qload Try.prog 37 (.pointer (some ⟨g, o, none⟩)) w = some x.v := by
  obtain ⟨i, hi, hs⟩ := inf37
  exact Qload_cells Try.underlying37 hi (hs.trans x.len.symm) h
theorem Ask.box (x : Ask) (w : World) : Xbox Try.prog 37 x.v w = some (.pointer (some ⟨w.heap.size, 0, none⟩), w.alloc (.cells x.cs.toArray 37)) := nonrfl rfl
theorem Ask.new (x : Ask) (w : World) : CellsAt x.cs (w.alloc (.cells x.cs.toArray 37)) w.heap.size 0 := CellsAt.of (MapKept.heap_alloc w _).1
theorem Ask.one1 (x : Ask) : ∀ u ∈ x.v.cells.toList, u.oneCell' = true := by
  intro u hu
  have hu : u ∈ x.cs := by simpa [Ask.v, Value.cells] using hu
  exact List.all_eq_true.1 (show x.cs.all (fun u => u.oneCell') = true from rfl) u hu
theorem alloc37 (w : World) : Xalloc Try.prog 37 w = some (.pointer (some ⟨w.heap.size, 0, none⟩), w.alloc (.cells Ask.zero.cs.toArray 37)) := Xalloc_eq (zero37 w)
theorem store37 {x : Ask} {w : World} {g : Nat} {cur : Array Value} {te : TypeId} (hg : w.heap[g]? = some (.cells cur te (0, 0))) (hc : cur.size = 4) : Xstore Try.prog 37 (.pointer (some ⟨g, 0, none⟩)) x.v w = some (undef, w.setRow g x.cs.toArray) := by
  obtain ⟨i, hi, hs⟩ := inf37
  exact Xstore_var (v := x.v) hi (by rw [hs]; rfl) hg (by rw [hs]; exact hc) x.one1
theorem put37 (x z : Ask) (w : World) : Xstore Try.prog 37 (.pointer (some ⟨w.heap.size, 0, none⟩)) x.v (w.alloc (.cells z.cs.toArray 37)) = some (undef, (w.alloc (.cells z.cs.toArray 37)).setRow w.heap.size x.cs.toArray) := store37 (MapKept.heap_alloc w _).1 rfl
theorem okc37 {w : World} {n : Nat} {cs : List Value} (h : Okc Try.prog w n 37 cs) : ∃ x : Ask, cs = x.cs ∧ x.ok := by
  cases n with
  | zero => exact h.elim
  | succ n =>
    unfold Okc at h
    rw [Try.underlying37] at h
    obtain ⟨hl, hf⟩ := h
    rw [show Try.prog.cellsOf 37 = 4 from by kernel_rfl] at hl
    match cs, hl, hf with
    | [c0, c1, c2, c3], _, hf =>
      have h0 := hf _ (List.mem_iff_getElem.2 ⟨0, by decide +kernel, rfl⟩)
      change Okc Try.prog w n 23 (([c0, c1, c2, c3].drop 0).take (Try.prog.cellsOf 23)) at h0
      rw [show Try.prog.cellsOf 23 = 1 from by kernel_rfl] at h0
      obtain ⟨m0, e0, w0⟩ := okc_int (k := .u32) (by kernel_rfl) h0
      have h1 := hf _ (List.mem_iff_getElem.2 ⟨1, by decide +kernel, rfl⟩)
      change Okc Try.prog w n 5 (([c0, c1, c2, c3].drop 1).take (Try.prog.cellsOf 5)) at h1
      rw [show Try.prog.cellsOf 5 = 1 from by kernel_rfl] at h1
      obtain ⟨m1, e1, w1⟩ := okc_int (k := .u8) (by kernel_rfl) h1
      have h2 := hf _ (List.mem_iff_getElem.2 ⟨2, by decide +kernel, rfl⟩)
      change Okc Try.prog w n 23 (([c0, c1, c2, c3].drop 2).take (Try.prog.cellsOf 23)) at h2
      rw [show Try.prog.cellsOf 23 = 1 from by kernel_rfl] at h2
      obtain ⟨m2, e2, w2⟩ := okc_int (k := .u32) (by kernel_rfl) h2
      have h3 := hf _ (List.mem_iff_getElem.2 ⟨3, by decide +kernel, rfl⟩)
      change Okc Try.prog w n 24 (([c0, c1, c2, c3].drop 3).take (Try.prog.cellsOf 24)) at h3
      rw [show Try.prog.cellsOf 24 = 1 from by kernel_rfl] at h3
      obtain ⟨m3, e3, w3⟩ := okc_int (k := .u16) (by kernel_rfl) h3
      refine ⟨⟨m0, m1, m2, m3⟩, ?_, ⟨w0, w1, w2, w3⟩⟩
      subst e0 e1 e2 e3
      rfl
theorem open37 {w : World} {r : Reach} {b n : Nat} {v : Value} (hw : Value.okWide Try.prog w r b 37 v) (h : Okc Try.prog w n 37 v.cells.toList) : ∃ x : Ask, v = x.v ∧ x.ok := by
  obtain ⟨cs, rfl, _⟩ := Go.WideShapes.okWide_struct Try.underlying37 hw
  obtain ⟨x, hx, hok⟩ := okc37 h
  exact ⟨x, by rw [Ask.v, ← hx]; rfl, hok⟩
theorem eqv37 (x y : Ask) : eqV Try.prog 37 x.v y.v = (match (x.src == y.src) with | true => (match (x.proto == y.proto) with | true => (match (x.dst == y.dst) with | true => (match (x.port == y.port) with | true => (some true) | false => some false) | false => some false) | false => some false) | false => some false) := by kernel_rfl
theorem eqq37 (x y : Ask) : eqV Try.prog 37 x.v y.v = some (decide (x = y)) := by
  rw [eqv37]
  obtain ⟨a0, a1, a2, a3⟩ := x
  obtain ⟨b0, b1, b2, b3⟩ := y
  simp only [Ask.mk.injEq]
  cases h0 : (a0 == b0)
  · have : ¬ a0 = b0 := by simpa using h0
    simp [this]
  have e0 : a0 = b0 := by simpa using h0
  cases h1 : (a1 == b1)
  · have : ¬ a1 = b1 := by simpa using h1
    simp [this]
  have e1 : a1 = b1 := by simpa using h1
  cases h2 : (a2 == b2)
  · have : ¬ a2 = b2 := by simpa using h2
    simp [this]
  have e2 : a2 = b2 := by simpa using h2
  cases h3 : (a3 == b3)
  · have : ¬ a3 = b3 := by simpa using h3
    simp [this]
  have e3 : a3 = b3 := by simpa using h3
  simp [e0, e1, e2, e3]
theorem Ask.eql (x y : Ask) : Qbin Try.prog .eql 37 x.v y.v = some (.bool (decide (x = y))) := by
  show (eqV Try.prog 37 x.v y.v).map Value.bool = _
  rw [eqq37]; rfl
theorem Ask.neq (x y : Ask) : Qbin Try.prog .neq 37 x.v y.v = some (.bool (!decide (x = y))) := by
  show (eqV Try.prog 37 x.v y.v).map (fun b => Value.bool !b) = _
  rw [eqq37]; rfl
/-! ### Deed: type 56 -/
structure Deed where
  r : Rule
  drop : Bool
  at_ : Int
  deriving DecidableEq
def Deed.cs (x : Deed) : List Value := x.r.cs ++ [.bool x.drop] ++ [.int .i64 x.at_]
def Deed.v (x : Deed) : Value := .agg x.cs.toArray
def Deed.ok (x : Deed) : Prop := x.r.ok ∧ (Lit.int .i64 x.at_).wf = true
def Deed.zero : Deed := ⟨Rule.zero, false, 0⟩
theorem Deed.len (x : Deed) : x.cs.length = 10 := rfl
theorem zero56 (w : World) : (zeroValue 56).run Try.prog w = .ok Deed.zero.v w := by kernel_rfl
theorem inf56 : ∃ i, Try.prog.info? 56 = some i ∧ i.size = 10 := ⟨(Try.prog.info? 56).get (by kernel_rfl), by kernel_rfl, by kernel_rfl⟩
@[go_sem] theorem fa56x0 (g o : Nat) : QfieldAddr Try.prog 56 (.pointer (some ⟨g, o, none⟩)) 0 = some (.pointer (some ⟨g, o, none⟩)) := by kernel_rfl
@[go_sem high] theorem fb56x0 (g : Nat) : QfieldAddr Try.prog 56 (.pointer (some ⟨g, 0, none⟩)) 0 = some (.pointer (some ⟨g, 0, none⟩)) := by kernel_rfl
@[go_sem] theorem fa56x1 (g o : Nat) : QfieldAddr Try.prog 56 (.pointer (some ⟨g, o, none⟩)) 1 = some (.pointer (some ⟨g, o + 8, none⟩)) := by kernel_rfl
@[go_sem high] theorem fb56x1 (g : Nat) : QfieldAddr Try.prog 56 (.pointer (some ⟨g, 0, none⟩)) 1 = some (.pointer (some ⟨g, 8, none⟩)) := by kernel_rfl
theorem one4 : one Try.prog 4 = true := by kernel_rfl
@[go_sem] theorem fa56x2 (g o : Nat) : QfieldAddr Try.prog 56 (.pointer (some ⟨g, o, none⟩)) 2 = some (.pointer (some ⟨g, o + 9, none⟩)) := by kernel_rfl
@[go_sem high] theorem fb56x2 (g : Nat) : QfieldAddr Try.prog 56 (.pointer (some ⟨g, 0, none⟩)) 2 = some (.pointer (some ⟨g, 9, none⟩)) := by kernel_rfl
theorem Deed.in0 {x : Deed} {w : World} {g o : Nat} (h : CellsAt x.cs w g o) : CellsAt x.r.cs w g (o) := by
  have : x.cs = ([]) ++ x.r.cs ++ ([.bool x.drop] ++ [.int .i64 x.at_]) := by simp [Deed.cs]
  rw [this] at h
  exact h.part
theorem Deed.f1 {x : Deed} {w : World} {g o : Nat} (h : CellsAt x.cs w g o) : Qload Try.prog 4 (.pointer (some ⟨g, o + 8, none⟩)) w = some (.bool x.drop) := Qload_cell one4 (h 8 _ rfl)
theorem Deed.b1 {x : Deed} {w : World} {g : Nat} (h : CellsAt x.cs w g 0) : Qload Try.prog 4 (.pointer (some ⟨g, 8, none⟩)) w = some (.bool x.drop) := Qload_cell one4 (by have := h 8 _ rfl; rwa [Nat.zero_add] at this)
theorem Deed.f2 {x : Deed} {w : World} {g o : Nat} (h : CellsAt x.cs w g o) : Qload Try.prog 3 (.pointer (some ⟨g, o + 9, none⟩)) w = some (.int .i64 x.at_) := Qload_cell one3 (h 9 _ rfl)
theorem Deed.b2 {x : Deed} {w : World} {g : Nat} (h : CellsAt x.cs w g 0) : Qload Try.prog 3 (.pointer (some ⟨g, 9, none⟩)) w = some (.int .i64 x.at_) := Qload_cell one3 (by have := h 9 _ rfl; rwa [Nat.zero_add] at this)
theorem Deed.all {x : Deed} {w : World} {g o : Nat} (h : CellsAt x.cs w g o) : Qload Try.prog 56 (.pointer (some ⟨g, o, none⟩)) w = some x.v := by
  obtain ⟨i, hi, hs⟩ := inf56
  exact Qload_cells Try.underlying56 hi (hs.trans x.len.symm) h
theorem Deed.box (x : Deed) (w : World) : Xbox Try.prog 56 x.v w = some (.pointer (some ⟨w.heap.size, 0, none⟩), w.alloc (.cells x.cs.toArray 56)) := nonrfl rfl
theorem Deed.new (x : Deed) (w : World) : CellsAt x.cs (w.alloc (.cells x.cs.toArray 56)) w.heap.size 0 := CellsAt.of (MapKept.heap_alloc w _).1
theorem Deed.one1 (x : Deed) : ∀ u ∈ x.v.cells.toList, u.oneCell' = true := by
  intro u hu
  have hu : u ∈ x.cs := by simpa [Deed.v, Value.cells] using hu
  exact List.all_eq_true.1 (show x.cs.all (fun u => u.oneCell') = true from rfl) u hu
theorem alloc56 (w : World) : Xalloc Try.prog 56 w = some (.pointer (some ⟨w.heap.size, 0, none⟩), w.alloc (.cells Deed.zero.cs.toArray 56)) := Xalloc_eq (zero56 w)
theorem store56 {x : Deed} {w : World} {g : Nat} {cur : Array Value} {te : TypeId} (hg : w.heap[g]? = some (.cells cur te (0, 0))) (hc : cur.size = 10) : Xstore Try.prog 56 (.pointer (some ⟨g, 0, none⟩)) x.v w = some (undef, w.setRow g x.cs.toArray) := by
  obtain ⟨i, hi, hs⟩ := inf56
  exact Xstore_var (v := x.v) hi (by rw [hs]; rfl) hg (by rw [hs]; exact hc) x.one1
theorem put56 (x z : Deed) (w : World) : Xstore Try.prog 56 (.pointer (some ⟨w.heap.size, 0, none⟩)) x.v (w.alloc (.cells z.cs.toArray 56)) = some (undef, (w.alloc (.cells z.cs.toArray 56)).setRow w.heap.size x.cs.toArray) := store56 (MapKept.heap_alloc w _).1 rfl
theorem okc56 {w : World} {n : Nat} {cs : List Value} (h : Okc Try.prog w n 56 cs) : ∃ x : Deed, cs = x.cs ∧ x.ok := by
  cases n with
  | zero => exact h.elim
  | succ n =>
    unfold Okc at h
    rw [Try.underlying56] at h
    obtain ⟨hl, hf⟩ := h
    rw [show Try.prog.cellsOf 56 = 10 from by kernel_rfl] at hl
    match cs, hl, hf with
    | [c0, c1, c2, c3, c4, c5, c6, c7, c8, c9], _, hf =>
      have h0 := hf _ (List.mem_iff_getElem.2 ⟨0, by decide +kernel, rfl⟩)
      change Okc Try.prog w n 26 (([c0, c1, c2, c3, c4, c5, c6, c7, c8, c9].drop 0).take (Try.prog.cellsOf 26)) at h0
      rw [show Try.prog.cellsOf 26 = 8 from by kernel_rfl] at h0
      obtain ⟨m0, e0, w0⟩ := okc26 h0
      have h1 := hf _ (List.mem_iff_getElem.2 ⟨1, by decide +kernel, rfl⟩)
      change Okc Try.prog w n 4 (([c0, c1, c2, c3, c4, c5, c6, c7, c8, c9].drop 8).take (Try.prog.cellsOf 4)) at h1
      rw [show Try.prog.cellsOf 4 = 1 from by kernel_rfl] at h1
      obtain ⟨m1, e1⟩ := okc_bool (by kernel_rfl) h1
      have h2 := hf _ (List.mem_iff_getElem.2 ⟨2, by decide +kernel, rfl⟩)
      change Okc Try.prog w n 3 (([c0, c1, c2, c3, c4, c5, c6, c7, c8, c9].drop 9).take (Try.prog.cellsOf 3)) at h2
      rw [show Try.prog.cellsOf 3 = 1 from by kernel_rfl] at h2
      obtain ⟨m2, e2, w2⟩ := okc_int (k := .i64) (by kernel_rfl) h2
      refine ⟨⟨m0, m1, m2⟩, ?_, ⟨w0, w2⟩⟩
      subst e1
      subst e2
      show _ = m0.cs ++ [.bool m1] ++ [.int .i64 m2]
      rw [← e0]
      rfl
theorem open56 {w : World} {r : Reach} {b n : Nat} {v : Value} (hw : Value.okWide Try.prog w r b 56 v) (h : Okc Try.prog w n 56 v.cells.toList) : ∃ x : Deed, v = x.v ∧ x.ok := by
  obtain ⟨cs, rfl, _⟩ := Go.WideShapes.okWide_struct Try.underlying56 hw
  obtain ⟨x, hx, hok⟩ := okc56 h
  exact ⟨x, by rw [Deed.v, ← hx]; rfl, hok⟩
/-! ### Rules: type 60 -/
structure Rules where
  l : Value
def Rules.cs (x : Rules) : List Value := [x.l]
def Rules.v (x : Rules) : Value := .agg x.cs.toArray
def Rules.ok (_ : Rules) : Prop := True
def Rules.zero : Rules := ⟨(.slice none 0 0)⟩
theorem Rules.len (x : Rules) : x.cs.length = 1 := rfl
theorem zero60 (w : World) : (zeroValue 60).run Try.prog w = .ok Rules.zero.v w := by kernel_rfl
theorem inf60 : ∃ i, Try.prog.info? 60 = some i ∧ i.size = 1 := ⟨(Try.prog.info? 60).get (by kernel_rfl), by kernel_rfl, by kernel_rfl⟩
@[go_sem] theorem fa60x0 (g o : Nat) : QfieldAddr Try.prog 60 (.pointer (some ⟨g, o, none⟩)) 0 = some (.pointer (some ⟨g, o, none⟩)) := by kernel_rfl
@[go_sem high] theorem fb60x0 (g : Nat) : QfieldAddr Try.prog 60 (.pointer (some ⟨g, 0, none⟩)) 0 = some (.pointer (some ⟨g, 0, none⟩)) := by kernel_rfl
theorem one33 : one Try.prog 33 = true := by kernel_rfl
theorem Rules.f0 {x : Rules} {w : World} {g o : Nat} (h : CellsAt x.cs w g o) : Qload Try.prog 33 (.pointer (some ⟨g, o, none⟩)) w = some x.l := Qload_cell one33 (h 0 _ rfl)
theorem Rules.b0 {x : Rules} {w : World} {g : Nat} (h : CellsAt x.cs w g 0) : Qload Try.prog 33 (.pointer (some ⟨g, 0, none⟩)) w = some x.l := Qload_cell one33 (by have := h 0 _ rfl; rwa [Nat.zero_add] at this)
theorem Rules.all {x : Rules} {w : World} {g o : Nat} (h : CellsAt x.cs w g o) : Qload Try.prog 60 (.pointer (some ⟨g, o, none⟩)) w = some x.v := by
  obtain ⟨i, hi, hs⟩ := inf60
  exact Qload_cells Try.underlying60 hi (hs.trans x.len.symm) h
theorem Rules.box (x : Rules) (w : World) : Xbox Try.prog 60 x.v w = some (.pointer (some ⟨w.heap.size, 0, none⟩), w.alloc (.cells x.cs.toArray 60)) := nonrfl rfl
theorem Rules.new (x : Rules) (w : World) : CellsAt x.cs (w.alloc (.cells x.cs.toArray 60)) w.heap.size 0 := CellsAt.of (MapKept.heap_alloc w _).1
/-! ### RefRules: type 71 -/
structure RefRules where
  l : Value
def RefRules.cs (x : RefRules) : List Value := [x.l]
def RefRules.v (x : RefRules) : Value := .agg x.cs.toArray
def RefRules.ok (_ : RefRules) : Prop := True
def RefRules.zero : RefRules := ⟨(.slice none 0 0)⟩
theorem RefRules.len (x : RefRules) : x.cs.length = 1 := rfl
theorem zero71 (w : World) : (zeroValue 71).run Try.prog w = .ok RefRules.zero.v w := by kernel_rfl
theorem inf71 : ∃ i, Try.prog.info? 71 = some i ∧ i.size = 1 := ⟨(Try.prog.info? 71).get (by kernel_rfl), by kernel_rfl, by kernel_rfl⟩
@[go_sem] theorem fa71x0 (g o : Nat) : QfieldAddr Try.prog 71 (.pointer (some ⟨g, o, none⟩)) 0 = some (.pointer (some ⟨g, o, none⟩)) := by kernel_rfl
@[go_sem high] theorem fb71x0 (g : Nat) : QfieldAddr Try.prog 71 (.pointer (some ⟨g, 0, none⟩)) 0 = some (.pointer (some ⟨g, 0, none⟩)) := by kernel_rfl
theorem RefRules.f0 {x : RefRules} {w : World} {g o : Nat} (h : CellsAt x.cs w g o) : Qload Try.prog 33 (.pointer (some ⟨g, o, none⟩)) w = some x.l := Qload_cell one33 (h 0 _ rfl)
theorem RefRules.b0 {x : RefRules} {w : World} {g : Nat} (h : CellsAt x.cs w g 0) : Qload Try.prog 33 (.pointer (some ⟨g, 0, none⟩)) w = some x.l := Qload_cell one33 (by have := h 0 _ rfl; rwa [Nat.zero_add] at this)
theorem RefRules.all {x : RefRules} {w : World} {g o : Nat} (h : CellsAt x.cs w g o) : Qload Try.prog 71 (.pointer (some ⟨g, o, none⟩)) w = some x.v := by
  obtain ⟨i, hi, hs⟩ := inf71
  exact Qload_cells Try.underlying71 hi (hs.trans x.len.symm) h
theorem RefRules.box (x : RefRules) (w : World) : Xbox Try.prog 71 x.v w = some (.pointer (some ⟨w.heap.size, 0, none⟩), w.alloc (.cells x.cs.toArray 71)) := nonrfl rfl
theorem RefRules.new (x : RefRules) (w : World) : CellsAt x.cs (w.alloc (.cells x.cs.toArray 71)) w.heap.size 0 := CellsAt.of (MapKept.heap_alloc w _).1
end Go.Proofs.Ytiioaklogbjhhaa
