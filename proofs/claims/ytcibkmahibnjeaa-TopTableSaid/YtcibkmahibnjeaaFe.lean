/- Bits of numbers without sign. -/
import Derived.Test.YtcibkmahibnjeaaFd
namespace Go.Ev
open Go

theorem toNat_ofInt_u {n : Nat} {a : Nat} (h : a < 2 ^ n) : (BitVec.ofInt n (a : Int)).toNat = a := by
  rw [BitVec.ofInt_natCast, BitVec.toNat_ofNat, Nat.mod_eq_of_lt h]
theorem wrap_u {k : IntKind} (hk : k.signed = false) {x : Nat} (h : x < 2 ^ k.bits) : k.wrap (x : Int) = x := by
  have h' : ((x : Int)) % ((2 ^ k.bits : Nat) : Int) = x := by rw [← Int.natCast_emod, Nat.mod_eq_of_lt h]
  cases k <;> first | (exfalso; revert hk; decide) | (simp only [IntKind.wrap, IntKind.bits, IntKind.signed] at h' ⊢; simp at h' ⊢; omega)
theorem iand_u {k : IntKind} (hk : k.signed = false) {a b : Nat} (ha : a < 2 ^ k.bits) (hb : b < 2 ^ k.bits) : iand k (a : Int) (b : Int) = ((a &&& b : Nat) : Int) := by
  unfold iand
  rw [BitVec.toNat_and, toNat_ofInt_u ha, toNat_ofInt_u hb]
  exact wrap_u hk (Nat.lt_of_le_of_lt Nat.and_le_left ha)
theorem ior_u {k : IntKind} (hk : k.signed = false) {a b : Nat} (ha : a < 2 ^ k.bits) (hb : b < 2 ^ k.bits) : ior k (a : Int) (b : Int) = ((a ||| b : Nat) : Int) := by
  unfold ior
  rw [BitVec.toNat_or, toNat_ofInt_u ha, toNat_ofInt_u hb]
  exact wrap_u hk (Nat.or_lt_two_pow ha hb)
theorem iandNot_u {k : IntKind} (hk : k.signed = false) {a b : Nat} (ha : a < 2 ^ k.bits) (hb : b < 2 ^ k.bits) : iandNot k (a : Int) (b : Int) = ((a &&& (2 ^ k.bits - 1 - b) : Nat) : Int) := by
  unfold iandNot
  rw [BitVec.toNat_and, BitVec.toNat_not, toNat_ofInt_u ha, toNat_ofInt_u hb]
  exact wrap_u hk (Nat.lt_of_le_of_lt Nat.and_le_left ha)

/-- The upper bits alone. -/
theorem and_upper {n a s : Nat} (ha : a < 2 ^ n) (hs : s ≤ n) : a &&& (2 ^ n - 2 ^ s) = a - a % 2 ^ s := by
  have e1 : a - a % 2 ^ s = (a >>> s) <<< s := by
    rw [Nat.shiftRight_eq_div_pow, Nat.shiftLeft_eq]
    have := Nat.div_add_mod a (2 ^ s)
    rw [Nat.mul_comm] at this
    omega
  have e2 : 2 ^ n - 2 ^ s = (2 ^ (n - s) - 1) <<< s := by
    rw [Nat.shiftLeft_eq, Nat.sub_mul, Nat.one_mul, ← Nat.pow_add, Nat.sub_add_cancel hs]
  rw [e1, e2]
  apply Nat.eq_of_testBit_eq
  intro i
  simp only [Nat.testBit_and, Nat.testBit_shiftLeft, Nat.testBit_shiftRight, Nat.testBit_two_pow_sub_one]
  by_cases h : s ≤ i
  · simp only [ge_iff_le, h, decide_true, Bool.true_and]
    rw [Nat.add_sub_cancel' h]
    by_cases h2 : i - s < n - s
    · simp [h2]
    · have : a.testBit i = false := Nat.testBit_lt_two_pow (Nat.lt_of_lt_of_le ha (Nat.pow_le_pow_right (by omega) (by omega)))
      simp [this]
  · simp [h]
/-- One bit struck. -/
theorem strike_bit {n a i : Nat} (ha : a < 2 ^ n) (hi : i < n) : (a - a % 2 ^ i) &&& (2 ^ n - 1 - 2 ^ i) = a - a % 2 ^ (i + 1) := by
  have e : ∀ s, a - a % 2 ^ s = (a >>> s) <<< s := by
    intro s
    rw [Nat.shiftRight_eq_div_pow, Nat.shiftLeft_eq]
    have := Nat.div_add_mod a (2 ^ s)
    rw [Nat.mul_comm] at this
    omega
  rw [e, e]
  apply Nat.eq_of_testBit_eq
  intro j
  have hb : (2 ^ n - 1 - 2 ^ i).testBit j = (decide (j < n) && !decide (i = j)) := by
    rw [Nat.sub_sub, Nat.add_comm 1, Nat.testBit_two_pow_sub_succ (Nat.pow_lt_pow_right (by omega) hi), Nat.testBit_two_pow]
  simp only [Nat.testBit_and, Nat.testBit_shiftLeft, Nat.testBit_shiftRight, hb]
  by_cases h : i ≤ j
  · by_cases h2 : i = j
    · subst h2; have : ¬ i + 1 ≤ i := by omega
      simp [this]
    · have h3 : i + 1 ≤ j := by omega
      simp only [ge_iff_le, h, h2, h3, decide_true, decide_false, Bool.true_and, Bool.not_false, Bool.and_true]
      rw [Nat.add_sub_cancel' h, Nat.add_sub_cancel' h3]
      by_cases h4 : j < n
      · simp [h4]
      · have : a.testBit j = false := Nat.testBit_lt_two_pow (Nat.lt_of_lt_of_le ha (Nat.pow_le_pow_right (by omega) (by omega)))
        simp [this]
  · have h3 : ¬ i + 1 ≤ j := by omega
    simp [h, h3]

theorem wf_u {k : IntKind} (hk : k.signed = false) {n : Int} (h : (Lit.int k n).wf = true) : ∃ m : Nat, n = m ∧ m < 2 ^ k.bits := by
  have : 0 ≤ n ∧ n < 2 ^ k.bits := by
    cases k <;> first | (exfalso; revert hk; decide) | (simp [Lit.wf, IntKind.min, IntKind.max, IntKind.signed, IntKind.bits] at h ⊢; omega)
  refine ⟨n.toNat, by omega, ?_⟩
  have h2 := this.2
  have : ((n.toNat : Nat) : Int) < ((2 ^ k.bits : Nat) : Int) := by rw [Int.toNat_of_nonneg this.1]; simpa using h2
  omega
theorem wf_i64 {n : Int} (h : (Lit.int .i64 n).wf = true) : -9223372036854775808 ≤ n ∧ n ≤ 9223372036854775807 := by
  simp [Lit.wf, IntKind.min, IntKind.max, IntKind.signed, IntKind.bits] at h
  omega
theorem wrap_i64 {n : Int} (h0 : -9223372036854775808 ≤ n) (h1 : n ≤ 9223372036854775807) : IntKind.i64.wrap n = n := by
  simp only [IntKind.wrap, IntKind.bits, IntKind.signed]
  simp
  omega
end Go.Ev
