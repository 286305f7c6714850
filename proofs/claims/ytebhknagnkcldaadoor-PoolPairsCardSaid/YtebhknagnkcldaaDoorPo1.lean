/- Words of bits; numbers in order. -/
import Derived.Test.YtebhknagnkcldaaDoorPo0
import Derived.Test.YtebhknagnkcldaaDoorFm
namespace Go.Proofs.YtebhknagnkcldaaDoor
open Go Go.Ev Go.RowKit
open Go.Proofs

theorem odd_bit (m i : Nat) : (2 * m + 1).testBit i = if i = 0 then true else m.testBit (i - 1) := by
  cases i with
  | zero => simp
  | succ i => rw [Nat.testBit_succ, if_neg (by omega)]; congr 1; omega
theorem even_bit (m i : Nat) : (2 * m).testBit i = if i = 0 then false else m.testBit (i - 1) := by
  cases i with
  | zero => simp
  | succ i => rw [Nat.testBit_succ, if_neg (by omega)]; congr 1; omega

theorem low_of : ∀ (f w : Nat), w ≤ f → w ≠ 0 → ∃ t m, w = 2 ^ t * (2 * m + 1)
  | 0, w, h, h0 => absurd (Nat.le_zero.1 h) h0
  | f + 1, w, h, h0 => by
    rcases Nat.mod_two_eq_zero_or_one w with e | e
    · obtain ⟨t, m, ht⟩ := low_of f (w / 2) (by omega) (by omega)
      exact ⟨t + 1, m, by rw [Nat.pow_succ, Nat.mul_comm (2 ^ t) 2, Nat.mul_assoc, ← ht]; omega⟩
    · exact ⟨0, w / 2, by simp; omega⟩

/-- The lowest bit of a word, and the word without it. -/
theorem low_bit {w : Nat} (h0 : w ≠ 0) (hw : w < 2 ^ 64) : ∃ t, t < 64 ∧ w.testBit t = true ∧ (∀ k, k < t → w.testBit k = false) ∧ (∀ k, (w &&& (w - 1)).testBit k = (w.testBit k && decide (t < k))) ∧ w &&& (2 ^ 64 - w) = 2 ^ t := by
  obtain ⟨t, m, rfl⟩ := low_of w w (Nat.le_refl _) h0
  have hp : 0 < 2 ^ t := Nat.two_pow_pos t
  have ht : t < 64 := by
    rcases Nat.lt_or_ge t 64 with h | h
    · exact h
    · have := Nat.pow_le_pow_right (n := 2) (by omega) h
      have : 2 ^ t * 1 ≤ 2 ^ t * (2 * m + 1) := Nat.mul_le_mul_left _ (by omega)
      omega
  have hm : m < 2 ^ (63 - t) := by
    have e : 2 ^ 64 = 2 ^ t * (2 * 2 ^ (63 - t)) := by
      rw [← Nat.mul_assoc, Nat.mul_comm (2 ^ t) 2, Nat.mul_assoc, ← Nat.pow_add, ← Nat.pow_succ']
      congr 1; omega
    rw [e] at hw
    have := Nat.lt_of_mul_lt_mul_left hw
    omega
  have bw : ∀ k, (2 ^ t * (2 * m + 1)).testBit k = (decide (t ≤ k) && (2 * m + 1).testBit (k - t)) := fun k => Nat.testBit_two_pow_mul ..
  refine ⟨t, ht, ?_, fun k hk => ?_, fun k => ?_, ?_⟩
  · rw [bw, Nat.sub_self, odd_bit]; simp
  · rw [bw]; simp; omega
  · have e : 2 ^ t * (2 * m + 1) - 1 = 2 ^ t * (2 * m) + (2 ^ t - 1) := by
      rw [Nat.mul_add]; omega
    rw [Nat.testBit_and, e, Nat.testBit_two_pow_mul_add _ (by omega), bw]
    by_cases h1 : k < t
    · have : decide (t ≤ k) = false := by rw [decide_eq_false_iff_not]; omega
      simp [this]
    · rw [if_neg h1, odd_bit, even_bit]
      by_cases h2 : k - t = 0
      · have : decide (t < k) = false := by rw [decide_eq_false_iff_not]; omega
        simp [h2, this]
      · have : decide (t < k) = true := by rw [decide_eq_true_iff]; omega
        have h3 : decide (t ≤ k) = true := by rw [decide_eq_true_iff]; omega
        simp [h2, this, h3]
  · have e : 2 ^ 64 - 2 ^ t * (2 * m + 1) = 2 ^ t * (2 * (2 ^ (63 - t) - (m + 1)) + 1) := by
      have e2 : 2 ^ 64 = 2 ^ t * (2 * 2 ^ (63 - t)) := by
        rw [← Nat.mul_assoc, Nat.mul_comm (2 ^ t) 2, Nat.mul_assoc, ← Nat.pow_add, ← Nat.pow_succ']
        congr 1; omega
      rw [e2, ← Nat.mul_sub]
      congr 1
      omega
    rw [e]
    apply Nat.eq_of_testBit_eq
    intro k
    rw [Nat.testBit_and, bw, Nat.testBit_two_pow_mul, odd_bit, odd_bit, Nat.testBit_two_pow]
    by_cases h1 : t ≤ k
    · by_cases h2 : k - t = 0
      · have : t = k := by omega
        simp [h1, h2, this]
      · rw [if_neg h2, if_neg h2, Nat.testBit_two_pow_sub_succ hm]
        have : ¬ t = k := by omega
        simp [this]
        intros
        assumption
    · have : ¬ t = k := by omega
      simp [h1, this]

theorem tab_low : ∀ t : Nat, t < 64 → tab.getD (2 ^ t * 285870213051353865 % 2 ^ 64 / 2 ^ 58) 0 = (t : Int) ∧ 2 ^ t * 285870213051353865 % 2 ^ 64 / 2 ^ 58 < 64 := by
  have : ∀ t : Fin 64, tab.getD (2 ^ t.val * 285870213051353865 % 2 ^ 64 / 2 ^ 58) 0 = (t.val : Int) ∧ 2 ^ t.val * 285870213051353865 % 2 ^ 64 / 2 ^ 58 < 64 := by decide +kernel
  exact fun t h => this ⟨t, h⟩

/-! ## Numbers in order -/

def Asc (l : List Nat) : Prop := l.Pairwise (· < ·)
theorem asc_ext : ∀ {l m : List Nat}, Asc l → Asc m → (∀ n, n ∈ l ↔ n ∈ m) → l = m
  | [], [], _, _, _ => rfl
  | [], x :: m, _, _, h => by have := (h x).2 (by simp); simp at this
  | x :: l, [], _, _, h => by have := (h x).1 (by simp); simp at this
  | x :: l, y :: m, hl, hm, h => by
    obtain ⟨h1, h2⟩ := List.pairwise_cons.1 hl
    obtain ⟨h3, h4⟩ := List.pairwise_cons.1 hm
    have e : x = y := by
      have hx := (h x).1 (by simp)
      have hy := (h y).2 (by simp)
      rcases List.mem_cons.1 hx with hx | hx
      · exact hx
      · rcases List.mem_cons.1 hy with hy | hy
        · exact hy.symm
        · have := h3 x hx; have := h1 y hy; omega
    subst e
    rw [asc_ext h2 h4 fun n => ?_]
    constructor
    · intro hn
      have := h1 n hn
      rcases List.mem_cons.1 ((h n).1 (by simp [hn])) with e | e
      · omega
      · exact e
    · intro hn
      have := h3 n hn
      rcases List.mem_cons.1 ((h n).2 (by simp [hn])) with e | e
      · omega
      · exact e

def ins (n : Nat) : List Nat → List Nat
  | [] => [n]
  | x :: l => if n < x then n :: x :: l else x :: ins n l
theorem mem_ins {n k : Nat} : ∀ {l : List Nat}, k ∈ ins n l ↔ k = n ∨ k ∈ l
  | [] => by simp [ins]
  | x :: l => by
    unfold ins
    split
    · simp
    · simp [mem_ins (l := l)]
      constructor
      · rintro (h | h | h) <;> simp [h]
      · rintro (h | h | h) <;> simp [h]
theorem asc_ins {n : Nat} : ∀ {l : List Nat}, Asc l → n ∉ l → Asc (ins n l)
  | [], _, _ => by simp [ins, Asc]
  | x :: l, h, hn => by
    obtain ⟨h1, h2⟩ := List.pairwise_cons.1 h
    have hx : n ≠ x := fun e => hn (by simp [e])
    unfold ins
    split
    · next c => exact List.pairwise_cons.2 ⟨fun y hy => by
        rcases List.mem_cons.1 hy with rfl | hy
        · exact c
        · have := h1 y hy; omega, h⟩
    · next c =>
      refine List.pairwise_cons.2 ⟨fun y hy => ?_, asc_ins h2 fun e => hn (by simp [e])⟩
      rcases mem_ins.1 hy with rfl | hy
      · omega
      · exact h1 y hy
theorem asc_filter {l : List Nat} (p : Nat → Bool) (h : Asc l) : Asc (l.filter p) := List.Pairwise.filter p h
/-- Of numbers in order those below b are those below a, and b - 1, where none lies between. -/
theorem below_step {l : List Nat} (h : Asc l) {a n : Nat} (ha : a ≤ n) (hn : n ∈ l) (hno : ∀ k, a ≤ k → k < n → k ∉ l) : l.filter (fun k => decide (k < n + 1)) = l.filter (fun k => decide (k < a)) ++ [n] := by
  refine asc_ext (asc_filter _ h) ?_ fun k => ?_
  · refine List.pairwise_append.2 ⟨asc_filter _ h, by simp, fun x hx y hy => ?_⟩
    simp at hx hy
    omega
  · simp only [List.mem_filter, List.mem_append, List.mem_singleton, decide_eq_true_eq]
    constructor
    · rintro ⟨h1, h2⟩
      by_cases h3 : k = n
      · exact .inr h3
      · refine .inl ⟨h1, ?_⟩
        rcases Nat.lt_or_ge k a with h | h
        · exact h
        · exact absurd h1 (hno k h (by omega))
    · rintro (⟨h1, h2⟩ | rfl)
      · exact ⟨h1, by omega⟩
      · exact ⟨hn, by omega⟩
theorem below_same {l : List Nat} {a b : Nat} (ha : a ≤ b) (hno : ∀ k, a ≤ k → k < b → k ∉ l) : l.filter (fun k => decide (k < b)) = l.filter (fun k => decide (k < a)) := by
  apply List.filter_congr
  intro k hk
  rw [decide_eq_decide]
  constructor
  · intro h
    rcases Nat.lt_or_ge k a with h' | h'
    · exact h'
    · exact absurd hk (hno k h' h)
  · intro h; omega
theorem below_all {l : List Nat} {b : Nat} (h : ∀ k ∈ l, k < b) : l.filter (fun k => decide (k < b)) = l := by
  rw [List.filter_eq_self]
  intro k hk
  simpa using h k hk

end Go.Proofs.YtebhknagnkcldaaDoor
