/- A line replaced names the other one, and the numbers behind it are as far on. -/
import Derived.Test.YtphokckbcmiddaaDoorMFtU14
import Derived.Test.YtphokckbcmiddaaDoorMFt29
namespace Go.Proofs.YtphokckbcmiddaaDoor
open Go Go.Ev Go.RowKit
open Go.Proofs

theorem und44 : Tryd.prog.underlying 44 = some (.array 2 24) := by kernel_rfl
theorem und45 : Tryd.prog.underlying 45 = some (.array 2 25) := by kernel_rfl
theorem lit46w (a b c : ByteArray) (w : World) : XbuildSlice Tryd.prog 46 3 #[(0, .string a), (1, .string b), (2, .string c)] w = some (.slice (some ⟨w.heap.size, 0, none⟩) 3 3, w.alloc (.cells #[.string a, .string b, .string c] 9)) := by kernel_rfl
theorem arr32 {w : World} {g : Nat} {x y : Int} (h : CellsAt [.int .u32 x, .int .u32 y] w g 0) : (∀ w2, QindexAddr Tryd.prog 44 (.pointer (some ⟨g, 0, none⟩)) (.int .i64 0) w2 = some (.pointer (some ⟨g, 0, none⟩))) ∧ (∀ w2, QindexAddr Tryd.prog 44 (.pointer (some ⟨g, 0, none⟩)) (.int .i64 1) w2 = some (.pointer (some ⟨g, 1, none⟩))) ∧
    Qload Tryd.prog 24 (.pointer (some ⟨g, 0, none⟩)) w = some (.int .u32 x) ∧ Qload Tryd.prog 24 (.pointer (some ⟨g, 1, none⟩)) w = some (.int .u32 y) := by
  obtain ⟨i, hi, hs⟩ := inf24
  refine ⟨fun w2 => QindexAddr_array (j := 0) und44 hi hs (by decide), fun w2 => QindexAddr_array (j := 1) und44 hi hs (by decide), Qload_cell one24 (by have := h 0 _ rfl; simpa using this), Qload_cell one24 (by have := h 1 _ rfl; simpa using this)⟩
theorem arr16 {w : World} {g : Nat} {x y : Int} (h : CellsAt [.int .u16 x, .int .u16 y] w g 0) : (∀ w2, QindexAddr Tryd.prog 45 (.pointer (some ⟨g, 0, none⟩)) (.int .i64 0) w2 = some (.pointer (some ⟨g, 0, none⟩))) ∧ (∀ w2, QindexAddr Tryd.prog 45 (.pointer (some ⟨g, 0, none⟩)) (.int .i64 1) w2 = some (.pointer (some ⟨g, 1, none⟩))) ∧
    Qload Tryd.prog 25 (.pointer (some ⟨g, 0, none⟩)) w = some (.int .u16 x) ∧ Qload Tryd.prog 25 (.pointer (some ⟨g, 1, none⟩)) w = some (.int .u16 y) := by
  obtain ⟨i, hi, hs⟩ := inf25
  refine ⟨fun w2 => QindexAddr_array (j := 0) und45 hi hs (by decide), fun w2 => QindexAddr_array (j := 1) und45 hi hs (by decide), Qload_cell one25 (by have := h 0 _ rfl; simpa using this), Qload_cell one25 (by have := h 1 _ rfl; simpa using this)⟩

/-- Numbers behind one part. -/
theorem map_one {first : Int} (h : 0 ≤ first ∧ first < 4294967296) {n : Nat} {bs : List Sq.By} :
    Sq.mapC first (Sq.cellsOf 0 [⟨(first + 5) % 4294967296, n, bs⟩]) = first := by
  unfold Sq.mapC
  simp only [Sq.cellsOf, List.reverse_singleton]
  have hp : Sq.mapP first ⟨(first + 5) % 4294967296, Sq.M.end_ ⟨(first + 5) % 4294967296, n, bs⟩, 0, Sq.M.more ⟨(first + 5) % 4294967296, n, bs⟩ 0, bs⟩ = false := by
    unfold Sq.mapP
    refine decide_eq_false ?_
    unfold Sq.aheadM
    dsimp only
    omega
  rw [List.find?_cons_of_neg (by rw [hp]; decide)]
  rfl
theorem map_two {first : Int} (h : 0 ≤ first ∧ first < 4294967296) {n m : Nat} {bs : List Sq.By} (hn : 1 ≤ n ∧ n ≤ 128) (hm : m = n + 7) :
    Sq.mapC ((first + m) % 4294967296) (Sq.cellsOf 0 [⟨(first + 5) % 4294967296, n, bs⟩]) = (first + m + bs.length - n) % 4294967296 := by
  subst hm
  unfold Sq.mapC
  simp only [Sq.cellsOf, List.reverse_singleton]
  have hp : Sq.mapP ((first + ((n + 7 : Nat) : Int)) % 4294967296) ⟨(first + 5) % 4294967296, Sq.M.end_ ⟨(first + 5) % 4294967296, n, bs⟩, 0, Sq.M.more ⟨(first + 5) % 4294967296, n, bs⟩ 0, bs⟩ = true := by
    unfold Sq.mapP
    refine decide_eq_true ?_
    unfold Sq.aheadM
    dsimp only
    omega
  rw [List.find?_cons_of_pos hp]
  simp only
  unfold Sq.mapV
  rw [if_neg (by unfold Sq.M.end_ Sq.aheadM; dsimp only; omega)]
  unfold Sq.M.more
  dsimp only
  omega

end Go.Proofs.YtphokckbcmiddaaDoor
