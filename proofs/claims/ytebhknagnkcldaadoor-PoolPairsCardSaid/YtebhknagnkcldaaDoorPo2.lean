/- A pool in memory: the program's, and the document's. -/
import Derived.Test.YtebhknagnkcldaaDoorPo1
import Derived.Test.YtebhknagnkcldaaDoorFo
import Derived.Test.YtebhknagnkcldaaDoorFe
namespace Go.Proofs.YtebhknagnkcldaaDoor
open Go Go.Ev Go.RowKit
open Go.Proofs

theorem t33 : NumTy Tryd.prog 33 22 .u16 := ⟨by kernel_rfl, by kernel_rfl, ⟨(Tryd.prog.info? 22).get (by kernel_rfl), by kernel_rfl, by kernel_rfl, by kernel_rfl, by decide +kernel⟩, by kernel_rfl, fun _ _ => by kernel_rfl, fun _ => by kernel_rfl⟩
theorem t56 : NumTy Tryd.prog 56 3 .i64 := ⟨by kernel_rfl, by kernel_rfl, ⟨(Tryd.prog.info? 3).get (by kernel_rfl), by kernel_rfl, by kernel_rfl, by kernel_rfl, by decide +kernel⟩, by kernel_rfl, fun _ _ => by kernel_rfl, fun _ => by kernel_rfl⟩

theorem ptr24 : Tryd.prog.underlying 24 = some (.pointer 53) := by kernel_rfl
theorem ptr25 : Tryd.prog.underlying 25 = some (.pointer 58) := by kernel_rfl
theorem one3 : one Tryd.prog 3 = true := by kernel_rfl
theorem one5 : one Tryd.prog 5 = true := by kernel_rfl
theorem one50 : one Tryd.prog 50 = true := by kernel_rfl
theorem one56 : one Tryd.prog 56 = true := by kernel_rfl
theorem inf50 : ∃ i, Tryd.prog.info? 50 = some i ∧ i.size = 1 := ⟨(Tryd.prog.info? 50).get (by kernel_rfl), by kernel_rfl, by kernel_rfl⟩
theorem inf51 : ∃ i, Tryd.prog.info? 51 = some i ∧ i.size = 1024 := ⟨(Tryd.prog.info? 51).get (by kernel_rfl), by kernel_rfl, by kernel_rfl⟩
theorem inf53 : ∃ i, Tryd.prog.info? 53 = some i ∧ i.size = 1026 := ⟨(Tryd.prog.info? 53).get (by kernel_rfl), by kernel_rfl, by kernel_rfl⟩
theorem und51 : Tryd.prog.underlying 51 = some (.array 1024 50) := by kernel_rfl
theorem fa53x0 (g : Nat) : QfieldAddr Tryd.prog 53 (.pointer (some ⟨g, 0, none⟩)) 0 = some (.pointer (some ⟨g, 0, none⟩)) := by kernel_rfl
theorem fa53x1 (g : Nat) : QfieldAddr Tryd.prog 53 (.pointer (some ⟨g, 0, none⟩)) 1 = some (.pointer (some ⟨g, 1, none⟩)) := by kernel_rfl
theorem fa53x2 (g : Nat) : QfieldAddr Tryd.prog 53 (.pointer (some ⟨g, 0, none⟩)) 2 = some (.pointer (some ⟨g, 2, none⟩)) := by kernel_rfl
theorem fa58x0 (g : Nat) : QfieldAddr Tryd.prog 58 (.pointer (some ⟨g, 0, none⟩)) 0 = some (.pointer (some ⟨g, 0, none⟩)) := by kernel_rfl
theorem fa58x1 (g : Nat) : QfieldAddr Tryd.prog 58 (.pointer (some ⟨g, 0, none⟩)) 1 = some (.pointer (some ⟨g, 1, none⟩)) := by kernel_rfl
theorem fa58x2 (g : Nat) : QfieldAddr Tryd.prog 58 (.pointer (some ⟨g, 0, none⟩)) 2 = some (.pointer (some ⟨g, 2, none⟩)) := by kernel_rfl

def wordV (n : Nat) : Value := .int .u64 (n : Int)
def plCs (lo hi : Nat) (W : List Nat) : List Value := [.int .i64 (lo : Int), .int .i64 (hi : Int)] ++ W.map wordV
theorem und53 : ∃ fs, Tryd.prog.underlying 53 = some (.struct fs) := ⟨_, Tryd.underlying53⟩
theorem build53 (lo hi : Nat) (w : World) : Qbuild Tryd.prog 53 #[(0, .int .i64 (lo : Int)), (1, .int .i64 (hi : Int))] w = some (.agg (plCs lo hi (List.replicate 1024 0)).toArray) := by kernel_rfl
theorem box53 (cs : Array Value) (w : World) : Xbox Tryd.prog 53 (.agg cs) w = some (.pointer (some ⟨w.heap.size, 0, none⟩), w.alloc (.cells cs 53)) := nonrfl rfl
theorem zero53 (w : World) : (zeroValue 53).run Tryd.prog w = .ok (.agg (plCs 0 0 (List.replicate 1024 0)).toArray) w := by kernel_rfl

/-! ## Words and the numbers that they tell -/

structure Words (W : List Nat) (U : List Nat) : Prop where
  len : W.length = 1024
  lt : ∀ x ∈ W, x < 2 ^ 64
  bit : ∀ n, n < 65536 → (W.getD (n / 64) 0).testBit (n % 64) = decide (n ∈ U)

theorem Words.at_ {W U : List Nat} (h : Words W U) {i : Nat} (hi : i < 1024) : ∃ x, W[i]? = some x ∧ W.getD i 0 = x ∧ x < 2 ^ 64 := by
  have hl : i < W.length := by rw [h.len]; exact hi
  exact ⟨W[i], List.getElem?_eq_getElem hl, by simp [List.getD_eq_getElem?_getD, hl], h.lt _ (List.getElem_mem hl)⟩
theorem Words.turn {W U U' : List Nat} (h : Words W U) {i x : Nat} (hi : i < 1024) (hx : x < 2 ^ 64) (h1 : ∀ k, k < 64 → x.testBit k = decide (64 * i + k ∈ U')) (h2 : ∀ n, n < 65536 → n / 64 ≠ i → (n ∈ U ↔ n ∈ U')) : Words (W.set i x) U' := by
  refine ⟨by rw [List.length_set]; exact h.len, fun y hy => ?_, fun n hn => ?_⟩
  · rcases List.mem_or_eq_of_mem_set hy with hy | rfl
    · exact h.lt y hy
    · exact hx
  · rw [List.getD_eq_getElem?_getD, List.getElem?_set]
    by_cases e : i = n / 64
    · rw [if_pos e, if_pos (by rw [h.len]; exact hi), Option.getD_some, h1 _ (Nat.mod_lt _ (by omega))]
      congr 2
      omega
    · rw [if_neg e, ← List.getD_eq_getElem?_getD, h.bit n hn]
      rw [decide_eq_decide]
      exact h2 n hn fun e' => e e'.symm

/-- What is told of the range, and of what is taken. -/
structure Bnd (lo hi : Nat) (U : List Nat) : Prop where
  lo1 : 1 ≤ lo
  le : lo ≤ hi
  hi1 : hi < 65536
  asc : Asc U
  mem : ∀ u ∈ U, lo ≤ u ∧ u ≤ hi

/-- The program's pool. -/
def Pl (w : World) (a lo hi : Nat) (U : List Nat) : Prop := Bnd lo hi U ∧ ∃ W, Words W U ∧ w.heap[a]? = some (.cells (plCs lo hi W).toArray 53 (0, 0))
theorem Pl.chg {w w' : World} {a lo hi : Nat} {U : List Nat} {S : Nat → Prop} (h : Pl w a lo hi U) (hc : Chg S w w') (hs : ¬ S a) : Pl w' a lo hi U := by
  obtain ⟨hb, W, hW, ha⟩ := h
  exact ⟨hb, W, hW, hc.at_ ha hs⟩
theorem Pl.bel {w w' : World} {a lo hi : Nat} {U : List Nat} (h : Pl w a lo hi U) (hb : Bel w w') : Pl w' a lo hi U := h.chg (.of_bel hb fun _ => False) fun f => f
theorem Pl.lt {w : World} {a lo hi : Nat} {U : List Nat} (h : Pl w a lo hi U) : a < w.heap.size := by
  obtain ⟨_, W, _, ha⟩ := h
  exact (Array.getElem?_eq_some_iff.1 ha).1

section pl
variable {w : World} {a lo hi : Nat} {U W : List Nat}
theorem pl_lo (ha : w.heap[a]? = some (.cells (plCs lo hi W).toArray 53 (0, 0))) : Qload Tryd.prog 3 (.pointer (some ⟨a, 0, none⟩)) w = some (.int .i64 lo) := Qload_cell one3 (cell_at ha rfl)
theorem pl_hi (ha : w.heap[a]? = some (.cells (plCs lo hi W).toArray 53 (0, 0))) : Qload Tryd.prog 3 (.pointer (some ⟨a, 1, none⟩)) w = some (.int .i64 hi) := Qload_cell one3 (cell_at ha rfl)
theorem pl_at {i x : Nat} (ha : w.heap[a]? = some (.cells (plCs lo hi W).toArray 53 (0, 0))) (hx : W[i]? = some x) : Qload Tryd.prog 50 (.pointer (some ⟨a, 2 + i, none⟩)) w = some (wordV x) := by
  refine Qload_cell one50 (cell_at ha ?_)
  simp [plCs, Nat.add_comm 2 i, hx]
theorem at51 {k : IntKind} {g o j : Nat} (w : World) (hj : j < 1024) : QindexAddr Tryd.prog 51 (.pointer (some ⟨g, o, none⟩)) (.int k (j : Int)) w = some (.pointer (some ⟨g, o + j, none⟩)) := by
  obtain ⟨i, hi, hs⟩ := inf50
  exact QindexAddr_array und51 hi hs hj
theorem pl_set (ha : w.heap[a]? = some (.cells (plCs lo hi W).toArray 53 (0, 0))) (hl : W.length = 1024) {i : Nat} (x : Nat) (hi' : i < 1024) : ∃ w', Xstore Tryd.prog 50 (.pointer (some ⟨a, 2 + i, none⟩)) (wordV x) w = some (undef, w') ∧ w'.heap[a]? = some (.cells (plCs lo hi (W.set i x)).toArray 53 (0, 0)) ∧ Chg (fun k => k = a) w w' := by
  obtain ⟨ti, hti, hts⟩ := inf50
  have hcl : (plCs lo hi W).toArray.size = 1026 := by simp [plCs, hl]
  have hst := Xstore_row (P := Tryd.prog) (t := 50) (v := wordV x) hti (by rw [hts]; rfl) ha (o := 2 + i) (by rw [hts, hcl]; omega) (by intro u hu; simp [wordV, Value.cells] at hu; subst hu; rfl)
  refine ⟨_, hst, ?_, setRow_chg _ _⟩
  have e : (plCs lo hi W).toArray.toList.take (2 + i) ++ (wordV x).cells.toList ++ (plCs lo hi W).toArray.toList.drop (2 + i + ti.size) = plCs lo hi (W.set i x) := by
    rw [hts]
    show (plCs lo hi W).take (2 + i) ++ [wordV x] ++ (plCs lo hi W).drop (2 + i + 1) = _
    have h1 : 2 + i < (plCs lo hi W).length := by simp [plCs, hl]; omega
    have := List.set_eq_take_append_cons_drop (l := plCs lo hi W) (i := 2 + i) (a := wordV x)
    rw [if_pos h1] at this
    rw [List.append_assoc, List.singleton_append, ← this]
    simp [plCs, Nat.add_comm 2 i, List.map_set]
  rw [e]
  exact setRow_heap w a _ _ 53 _ ha
end pl

theorem bit_of {x k : Nat} (hx : x < 2 ^ 64) : (iand .u64 ((x / 2 ^ k : Nat) : Int) 1 == 1) = x.testBit k := by
  have h1 : x / 2 ^ k < 2 ^ 64 := Nat.lt_of_le_of_lt (Nat.div_le_self _ _) hx
  rw [show (1 : Int) = ((1 : Nat) : Int) from rfl, iand_u (k := .u64) rfl h1 (show (1 : Nat) < 2 ^ IntKind.u64.bits by decide), Nat.and_one_is_mod, Nat.testBit_eq_decide_div_mod_eq, Bool.eq_iff_iff, beq_iff_eq, decide_eq_true_eq]
  omega

theorem k16 {w : World} {a lo hi n : Nat} {U : List Nat} (h : Pl w a lo hi U) (hn : n < 65536) : Brings (Xcall Tryd.prog (Value.func (Fn.func 16) #[] #[]) #[.pointer (some ⟨a, 0, none⟩), .int .u16 (n : Int)] w) (fun r => r = (.bool (decide (n ∈ U)), w)) := by
  refine e16 ?_
  unfold s16
  obtain ⟨hb, W, hW, ha⟩ := h
  have n64 : (64 : Int) ≠ 0 := by decide
  have d1 : (n : Int).tdiv 64 = ((n / 64 : Nat) : Int) := by rw [Int.tdiv_eq_ediv_of_nonneg (by omega)]; omega
  have d2 : (n : Int).tmod 64 = ((n % 64 : Nat) : Int) := by rw [Int.tmod_eq_emod_of_nonneg (by omega)]; omega
  have d3 : IntKind.u16.wrap ((n / 64 : Nat) : Int) = ((n / 64 : Nat) : Int) := wrap_u rfl (Nat.lt_of_le_of_lt (Nat.div_le_self _ _) hn)
  obtain ⟨x, hx, hx2, hx3⟩ := hW.at_ (i := n / 64) (by omega)
  have m64 : n % 64 < 64 := Nat.mod_lt _ (by omega)
  simp only [go_sem, Qb_neqP (P := Tryd.prog) (t := 24) (e := 53) ptr24, Option.isSome_some, Qb_quoP n64, Qb_remP n64, d1, d2, d3, fa53x2, at51 w (show n / 64 < 1024 by omega), pl_at ha hx, wordV]
  rw [Qb_shr (by omega)]
  have d4 : min ((n % 64 : Nat) : Int).toNat IntKind.u64.bits = n % 64 := by
    rw [Int.toNat_natCast]
    exact Nat.min_eq_left (by show n % 64 ≤ 64; omega)
  rw [d4]
  have d5 : ((x : Int)).fdiv (2 ^ (n % 64)) = ((x / 2 ^ (n % 64) : Nat) : Int) := shr_nat x _
  simp only [d5, go_sem, bit_of hx3]
  rw [← hx2, hW.bit n hn]
  exact .ret rfl

end Go.Proofs.YtebhknagnkcldaaDoor
