/- Arrays: their elements by address and by value. -/
import Derived.Test.YtcibkmahibnjeaaFl
namespace Go.Ev
open Go Go.RowKit

section
variable {P : Program} {w : World} {t e : TypeId}

theorem QindexAddr_array {n : Nat} {i : TypeInfo} {g o : Nat} {k : IntKind} {j : Nat} (ht : P.underlying t = some (.array n e)) (hi : P.info? e = some i) (hs : i.size = 1) (hj : j < n) :
    QindexAddr P t (.pointer (some ⟨g, o, none⟩)) (.int k (j : Int)) w = some (.pointer (some ⟨g, o + j, none⟩)) := by
  have h : (0 : Int) ≤ (j : Int) ∧ (j : Int) < (n : Int) := by omega
  unfold QindexAddr qv
  simp only [Instr.indexAt, Instr.sureAddr, asIntOf, Sem.run_bind, Sem.run_pure, Result.andThen_ok, run_underlying ht, run_size hi, if_pos h, hs, Int.toNat_natCast, Nat.mul_one]
  unfold Addr.add
  by_cases h : j = 0 <;> simp [h]
theorem Qindex_array {n : Nat} {i : TypeInfo} {cs : Array Value} {k : IntKind} {j : Nat} {v : Value} (ht : P.underlying t = some (.array n e)) (he : ∃ k, P.underlying e = some (.int k)) (hi : P.info? e = some i) (hs : i.size = 1) (hj : j < n) (hv : cs[j]? = some v) :
    Qindex P t (.agg cs) (.int k (j : Int)) w = some v := by
  have h : (0 : Int) ≤ (j : Int) ∧ (j : Int) < (n : Int) := by omega
  unfold Qindex qv
  simp only [Instr.index, asIntOf, Sem.run_bind, Sem.run_pure, Result.andThen_ok, run_underlying ht, run_size hi, if_pos h, hs, Int.toNat_natCast, Nat.mul_one]
  obtain ⟨k', he⟩ := he
  have hag : (isAgg e).run P w = .ok false w := by simp only [isAgg, Sem.run_bind, run_underlying he, Result.andThen_ok]; rfl
  simp only [part, Sem.run_bind, hag, Result.andThen_ok, hv, Bool.false_eq_true, if_false, Sem.run_pure]
end
end Go.Ev
