/- The reference's line and open. -/
import Derived.Test.YtphokckbcmiddaaDoorMFt40
namespace Go.Proofs.YtphokckbcmiddaaDoor
open Go Go.Ev Go.RowKit
open Go.Proofs

set_option maxRecDepth 100000 in
theorem k32 {w : World} {s : Value} {b : List Int} (hs : Vw w s (b ++ [13, 10])) (hb8 : b.length ≤ 900) :
    Brings (Xcall Tryd.prog (Value.func (Fn.func 32) #[] #[]) #[s, .int .i64 0] w) (fun r => r = (.int .i64 (if (40 : Int) ∈ b then ((b.takeWhile fun c => decide (c ≠ 40)).length : Int) else -1), w)) := by
  refine e32 ?_
  unfold s32
  have hlen : (b ++ [13, 10]).length = b.length + 2 := by simp
  refine Brings.loop (fun k xs w' => ∃ j : Nat, j ≤ b.length + 2 ∧ k = b.length + 2 - j ∧ xs = [s, .int .i64 0, .int .i64 (j : Int)] ∧ w = w' ∧ ∀ c ∈ (b ++ [13, 10]).take j, c ≠ 40) ?_ (b.length + 2) _ _ ⟨0, Nat.zero_le _, rfl, rfl, rfl, by simp⟩
  rintro k _ w' ⟨j, hj, rfl, rfl, rfl, hc⟩
  simp only [s32B0, go_sem, vlen hs, hlen]
  by_cases hjl : j < b.length + 2
  · rw [decide_eq_true (by omega)]
    obtain ⟨x, a, hx, hq, hld⟩ := vget hs (j := j) (by omega)
    simp only [go_sem, hq, hld]
    by_cases h40 : x = 40
    · subst h40
      rw [show ((40 : Int) == 40) = true from rfl]
      simp only [go_sem]
      refine .ret (.inr ⟨by simp, ?_⟩)
      simp only [s32R0]
      have hjb : j < b.length := by
        rcases Nat.lt_or_ge j b.length with h | h
        · exact h
        rw [List.getElem?_append_right h] at hx
        have : j - b.length = 0 ∨ j - b.length = 1 := by omega
        rcases this with e | e <;> rw [e] at hx <;> simp at hx
      rw [List.getElem?_append_left hjb] at hx
      rw [List.take_append_of_le_length (by omega)] at hc
      rw [if_pos (List.mem_of_getElem? hx)]
      have e : b.takeWhile (fun c => decide (c ≠ 40)) = b.take j := by
        have := (Ftp.takeWhile_app (p := fun c => decide (c ≠ 40)) (l := b.take j) (m := b.drop j) (fun c hc2 => by simpa using hc c hc2) (by
          intro c hc2
          rw [List.head?_drop, hx] at hc2
          injection hc2 with hc2
          subst hc2
          rfl)).1
        rwa [List.take_append_drop] at this
      rw [e, List.length_take, show min j b.length = j by omega]
      exact .ret rfl
    · rw [show (x == 40) = false by simpa using h40]
      simp only [go_sem]
      rw [wr (by omega) (by omega)]
      refine .ret (.inl ⟨rfl, b.length + 2 - (j + 1), by omega, j + 1, by omega, rfl, rfl, rfl, ?_⟩)
      rw [List.take_add_one, hx]
      intro c hc2
      rw [List.mem_append] at hc2
      rcases hc2 with h | h
      · exact hc c h
      · simp at h; subst h; exact h40
  · rw [decide_eq_false (by omega)]
    simp only [go_sem]
    refine .ret (.inr ⟨by simp, ?_⟩)
    simp only [s32R0]
    rw [List.take_of_length_le (by omega)] at hc
    rw [if_neg fun h => hc 40 (by simp [h]) rfl]
    exact .ret rfl

theorem line_iff {l : List Int} : (Ftp.lineS l).isSome = true ↔ 2 ≤ l.length ∧ l.length ≤ 128 ∧ l[l.length - 2]? = some 13 ∧ l[l.length - 1]? = some 10 ∧ Ftp.clean (l.take (l.length - 2)) = true := by
  unfold Ftp.lineS
  have key : 2 ≤ l.length → (l.drop (l.length - 2) = [13, 10] ↔ l[l.length - 2]? = some 13 ∧ l[l.length - 1]? = some 10) := by
    intro h
    have e2 : l.drop (l.length - 2) = [l[l.length - 2]'(by omega), l[l.length - 1]'(by omega)] := by
      rw [List.drop_eq_getElem_cons (by omega), show l.length - 2 + 1 = l.length - 1 by omega, List.drop_eq_getElem_cons (by omega), List.drop_of_length_le (by omega)]
    rw [e2, List.getElem?_eq_getElem (by omega), List.getElem?_eq_getElem (by omega)]
    simp
  split
  · rename_i h
    simp only [Option.isSome_some, true_iff]
    exact ⟨h.1, h.2.1, ((key h.1).1 h.2.2.1).1, ((key h.1).1 h.2.2.1).2, h.2.2.2⟩
  · rename_i h
    constructor
    · intro h2; cases h2
    · rintro ⟨h1, h2, h3, h4, h5⟩
      exact absurd ⟨h1, h2, (key h1).2 ⟨h3, h4⟩, h5⟩ h

theorem k26 {w : World} {s : Value} {l : List Int} (hs : Vw w s l) : Brings (Xcall Tryd.prog (Value.func (Fn.func 26) #[] #[]) #[s] w) (fun r => r = (.bool (Ftp.lineS l).isSome, w)) := by
  refine e26 ?_
  unfold s26
  have no : ¬ (2 ≤ l.length ∧ l.length ≤ 128 ∧ l[l.length - 2]? = some 13 ∧ l[l.length - 1]? = some 10 ∧ Ftp.clean (l.take (l.length - 2)) = true) → Brings (some ((.bool false : Value), w)) (fun r => r = (.bool (Ftp.lineS l).isSome, w)) := by
    intro h
    rw [← line_iff, Bool.not_eq_true] at h
    rw [h]
    exact .ret rfl
  have hsm : l.length ≤ maxLen := hs.small
  simp only [vlen hs, go_sem]
  by_cases h2 : l.length < 2
  · rw [decide_eq_true (by omega)]
    simp only [go_sem]
    exact no (by omega)
  rw [decide_eq_false (by omega)]
  simp only [go_sem]
  by_cases h128 : 128 < l.length
  · rw [decide_eq_true (by omega)]
    simp only [go_sem]
    exact no (by omega)
  rw [decide_eq_false (by omega)]
  simp only [go_sem]
  rw [wr (by omega) (by omega)]
  obtain ⟨x, a, hx, hq, hld⟩ := vget hs (j := l.length - 2) (by omega)
  obtain ⟨y, a2, hy, hq2, hld2⟩ := vget hs (j := l.length - 1) (by omega)
  have e2 : (l.length : Int) - 2 = ((l.length - 2 : Nat) : Int) := by omega
  have e1 : (l.length : Int) - 1 = ((l.length - 1 : Nat) : Int) := by omega
  rw [e2]
  simp only [go_sem, hq, hld]
  by_cases hx13 : x = 13
  · subst hx13
    rw [show ((13 : Int) != 13) = false from rfl]
    simp only [go_sem]
    rw [wr (by omega) (by omega), e1]
    simp only [go_sem, hq2, hld2]
    by_cases hy10 : y = 10
    · subst hy10
      rw [show ((10 : Int) != 10) = false from rfl]
      simp only [go_sem]
      refine Brings.loop (fun k xs w' => ∃ j : Nat, j ≤ l.length - 2 ∧ k = l.length - 2 - j ∧ xs = [s, .bool false, .int .i64 (l.length : Int), .int .i64 (j : Int)] ∧ w = w' ∧ Ftp.clean (l.take j) = true) ?_ (l.length - 2) _ _ ⟨0, Nat.zero_le _, rfl, rfl, rfl, rfl⟩
      rintro k _ w' ⟨j, hj, rfl, rfl, rfl, hcl⟩
      simp only [s26B0, go_sem]
      rw [wr (by omega) (by omega)]
      by_cases hjl : j < l.length - 2
      · rw [decide_eq_true (by omega)]
        obtain ⟨c, a3, hc, hq3, hld3⟩ := vget hs (j := j) (by omega)
        simp only [go_sem, hq3, hld3]
        have bad : (c = 13 ∨ c = 10) → Brings (some ((Exit.ret, [s, .bool false, .int .i64 (l.length : Int), .int .i64 (j : Int)], w) : Exit × List Value × World)) fun r =>
            (r.1 = .normal ∧ ∃ m, m < l.length - 2 - j ∧ ∃ j : Nat, j ≤ l.length - 2 ∧ m = l.length - 2 - j ∧ r.2.1 = [s, .bool false, .int .i64 (l.length : Int), .int .i64 (j : Int)] ∧ w = r.2.2 ∧ Ftp.clean (l.take j) = true) ∨
            (r.1 ≠ .normal ∧ Brings (s26R0 r.1 r.2.1 r.2.2) fun r => r = (.bool (Ftp.lineS l).isSome, w)) := by
          intro h
          refine .ret (.inr ⟨by simp, ?_⟩)
          simp only [s26R0]
          refine no ?_
          rintro ⟨_, _, _, _, h5⟩
          unfold Ftp.clean at h5
          have := List.all_eq_true.1 h5 c (List.mem_of_getElem? (i := j) (by rw [List.getElem?_take_of_lt hjl]; exact hc))
          simp at this
          omega
        by_cases c13 : c = 13
        · rw [show (c == 13) = true by simpa using c13]
          simp only [go_sem]
          exact bad (.inl c13)
        rw [show (c == 13) = false by simpa using c13]
        simp only [go_sem, hq3, hld3]
        by_cases c10 : c = 10
        · rw [show (c == 10) = true by simpa using c10]
          simp only [go_sem]
          exact bad (.inr c10)
        rw [show (c == 10) = false by simpa using c10]
        simp only [go_sem]
        rw [wr (by omega) (by omega)]
        refine .ret (.inl ⟨rfl, l.length - 2 - (j + 1), by omega, j + 1, by omega, rfl, rfl, rfl, ?_⟩)
        rw [List.take_add_one, hc]
        unfold Ftp.clean at hcl ⊢
        rw [List.all_append, hcl]
        simp [c13, c10]
      · rw [decide_eq_false (by omega)]
        obtain rfl : j = l.length - 2 := by omega
        simp only [go_sem]
        refine .ret (.inr ⟨by simp, ?_⟩)
        simp only [s26R0]
        rw [line_iff.2 ⟨by omega, by omega, hx, hy, hcl⟩]
        exact .ret rfl
    · rw [show (y != 10) = true by simpa using hy10]
      simp only [go_sem]
      refine no ?_
      rintro ⟨_, _, _, h4, _⟩
      rw [hy] at h4
      injection h4 with h4
      exact hy10 h4
  · rw [show (x != 13) = true by simpa using hx13]
    simp only [go_sem]
    refine no ?_
    rintro ⟨_, _, h3, _⟩
    rw [hx] at h3
    injection h3 with h3
    exact hx13 h3

end Go.Proofs.YtphokckbcmiddaaDoor
