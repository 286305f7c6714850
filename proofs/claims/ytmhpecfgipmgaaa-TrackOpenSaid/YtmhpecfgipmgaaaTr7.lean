/- More laws of the package track that take plain values. -/
import Derived.Test.YtmhpecfgipmgaaaTr6
namespace Go.Proofs.Ytmhpecfgipmgaaa
open Go Go.Ev Go.RowKit
open Go.Proofs

theorem next7 {n : Int} (back : Bool) (h0 : 0 ≤ n) (h1 : n < 256) : nextM 7 back n = if !back && begins n then (1, true) else if has n 4 then (7, true) else (0, false) := by
  have hb := begins_bits h0 h1
  rw [next_same back h0 h1, ← begins_same h0 h1]
  revert hb
  generalize has n 4 = rst
  generalize has n 2 = syn
  generalize has n 1 = fin
  generalize has n 16 = ack
  generalize begins n = beg
  revert back rst syn fin ack beg
  decide +kernel
theorem next0 {n : Int} (back : Bool) (h0 : 0 ≤ n) (h1 : n < 256) : nextM 0 back n = if !back && begins n then (1, true) else (0, false) := by
  have hb := begins_bits h0 h1
  rw [next_same back h0 h1, ← begins_same h0 h1]
  revert hb
  generalize has n 4 = rst
  generalize has n 2 = syn
  generalize has n 1 = fin
  generalize has n 16 = ack
  generalize begins n = beg
  revert back rst syn fin ack beg
  decide +kernel

/-! ### TrackClosed -/
theorem l4 {n : Int} {back : Bool} {w : World} (h0 : 0 ≤ n) (h1 : n < 256) : Brings (s4 (.bool back) (.int .u8 n) w) (fun r => r.1 = .bool true ∧ Bel w r.2) := by
  unfold s4
  refine k12.bind ?_
  rintro ⟨_, w1⟩ ⟨h, b1⟩
  simp only at h b1
  rw [next7 back h0 h1] at h
  subst h
  simp only [go_sem]
  refine k12.bind ?_
  rintro ⟨_, w2⟩ ⟨h, b2⟩
  simp only at h b2
  rw [next0 back h0 h1] at h
  subst h
  have b2 := b1.trans b2
  cases back with
  | true =>
    simp only [Bool.not_true, Bool.false_and, Bool.false_eq_true, if_false, go_sem]
    refine k14.bind ?_
    rintro ⟨_, w3⟩ ⟨h, b3⟩
    simp only at h b3
    subst h
    simp only [go_sem]
    rw [Qb_eqlB (by kernel_rfl)]
    cases has n 4 <;> simp only [go_sem, beq_self_eq_true, Bool.not_false, Bool.not_true, if_true, Bool.false_eq_true, if_false] <;> exact .ret ⟨rfl, b2.trans b3⟩
  | false =>
    simp only [Bool.not_false, Bool.true_and, go_sem]
    refine k15.bind ?_
    rintro _ rfl
    simp only [go_sem]
    refine k14.bind ?_
    rintro ⟨_, w3⟩ ⟨h, b3⟩
    simp only at h b3
    subst h
    simp only [go_sem]
    rw [Qb_eqlB (by kernel_rfl)]
    cases has n 4 <;> cases begins n <;> simp only [go_sem, beq_self_eq_true, Bool.not_false, Bool.not_true, if_true, Bool.false_eq_true, if_false] <;> exact .ret ⟨rfl, b2.trans b3⟩

theorem law4 {n : Int} {back : Bool} {w : World} (h : (Lit.int .u8 n).wf = true) :
    Calls Try.prog 4 #[.bool back, .int .u8 n] w fun e w' => e = .returned (.bool true) ∧ Below w.heap.size w w' :=
  walk_of (l4 (wf_byte h).1 (wf_byte h).2) fun _ => c4

/-! ### TrackFirst -/
theorem l5 {n : Int} {w : World} (h0 : 0 ≤ n) (h1 : n < 256) : Brings (s5 (.int .u8 n) w) (fun r => r.1 = .bool true ∧ Bel w r.2) := by
  unfold s5
  refine k12.bind ?_
  rintro ⟨_, w1⟩ ⟨h, b1⟩
  simp only at h b1
  rw [next0 true h0 h1] at h
  simp only [Bool.not_true, Bool.false_and, Bool.false_eq_true, if_false] at h
  subst h
  simp only [go_sem]
  refine k14.bind ?_
  rintro ⟨_, w3⟩ ⟨h, b3⟩
  simp only at h b3
  subst h
  simp only [go_sem, Bool.not_false]
  exact .ret ⟨rfl, b1.trans b3⟩
theorem law5 {n : Int} {w : World} (h : (Lit.int .u8 n).wf = true) :
    Calls Try.prog 5 #[.int .u8 n] w fun e w' => e = .returned (.bool true) ∧ Below w.heap.size w w' :=
  walk_of (l5 (wf_byte h).1 (wf_byte h).2) fun _ => c5

/-! ### TrackResets -/
theorem reset4 {n : Int} (h0 : 0 ≤ n) (h1 : n < 256) : has (ior .u8 n 4) 4 = true := byte_all (p := fun n => has (ior .u8 n 4) 4) (by decide +kernel) h0 h1
theorem nextR {s n : Int} (back : Bool) (h0 : 0 ≤ n) (h1 : n < 256) : nextM s back (ior .u8 n 4) = if decide (1 ≤ s) && decide (s ≤ 7) then (7, true) else (0, false) := by
  unfold nextM
  have : newsM back (ior .u8 n 4) = (1, true) := by unfold newsM; rw [if_pos (reset4 h0 h1)]
  rw [this]
  simp only [Bool.true_eq_false, if_false, tab]
  rw [show ((1 : Int) == 3) = false from rfl]
  simp only [Bool.and_false, Bool.false_and, Bool.false_eq_true, if_false]
  by_cases h : 1 ≤ s ∧ s ≤ 7
  · rw [if_pos ⟨trivial, h.1, by omega⟩]
    simp [h.1, h.2]
  · rw [if_neg (by rintro ⟨_, h1, h2⟩; exact h ⟨h1, by omega⟩), lit_no1]
    have : (decide (1 ≤ s) && decide (s ≤ 7)) = false := by simp; omega
    rw [this]; rfl
theorem l6 {s n : Int} {back : Bool} {w : World} (h0 : 0 ≤ n) (h1 : n < 256) : Brings (s6 (.int .i64 s) (.bool back) (.int .u8 n) w) (fun r => r.1 = .bool true ∧ Bel w r.2) := by
  unfold s6
  simp only [go_sem]
  refine k12.bind ?_
  rintro ⟨_, w1⟩ ⟨h, b1⟩
  simp only at h b1
  rw [nextR back h0 h1] at h
  subst h
  simp only [go_sem]
  cases hs : decide (1 ≤ s) <;> cases hs2 : decide (s ≤ 7) <;> simp only [go_sem, hs2, Bool.true_and, Bool.false_and, Bool.and_false, Bool.and_true, Bool.false_eq_true, if_false, if_true] <;>
  · refine k14.bind ?_
    rintro ⟨_, w3⟩ ⟨h, b3⟩
    simp only at h b3
    subst h
    simp only [go_sem]
    rw [Qb_eqlB (by kernel_rfl)]
    simp only [go_sem, beq_self_eq_true, Bool.not_false, Bool.not_true]
    exact .ret ⟨rfl, b1.trans b3⟩
theorem law6 {s n : Int} {back : Bool} {w : World} (_ : (Lit.int .i64 s).wf = true) (h : (Lit.int .u8 n).wf = true) :
    Calls Try.prog 6 #[.int .i64 s, .bool back, .int .u8 n] w fun e w' => e = .returned (.bool true) ∧ Below w.heap.size w w' :=
  walk_of (l6 (wf_byte h).1 (wf_byte h).2) fun _ => c6

/-! ### TrackOther -/
theorem k19 {s : Int} {back : Bool} {w : World} : Brings (Xcall Try.prog (Value.func (Fn.func 19) #[] #[]) #[.int .i64 s, .bool back] w) (fun r => r = (.int .i64 (if s != 3 && !back then 8 else 3), w)) := by
  refine e19 ?_
  unfold s19
  simp only [go_sem]
  cases s != 3 <;> cases back <;> simp only [go_sem, Bool.not_false, Bool.not_true] <;> exact .ret rfl
theorem k20 {s : Int} {back : Bool} {w : World} : Brings (Xcall Try.prog (Value.func (Fn.func 20) #[] #[]) #[.int .i64 s, .bool back] w) (fun r => r = (.int .i64 (if s != 3 && !back then 8 else 3), w)) := by
  refine e20 ?_
  unfold s20
  simp only [go_sem]
  rw [show (s != 3) = !(s == 3) from rfl]
  cases back <;> simp only [go_sem, Bool.not_false, Bool.not_true] <;> cases s == 3 <;> simp only [go_sem, Bool.not_false, Bool.not_true] <;> exact .ret rfl
def liveM (s : Int) : Bool := s == 8 || (decide (0 < s) && decide (s < 7))
theorem k17 {s : Int} {w : World} : Brings (Xcall Try.prog (Value.func (Fn.func 17) #[] #[]) #[.int .i64 s] w) (fun r => r = (.bool (liveM s), w)) := by
  refine e17 ?_
  unfold s17 liveM
  simp only [go_sem]
  cases s == 8 <;> simp only [go_sem, Bool.not_false, Bool.not_true]
  · cases decide (0 < s) <;> simp only [go_sem, Bool.not_false, Bool.not_true] <;> exact .ret (by simp)
  · exact .ret rfl
theorem k22 {s : Int} {w : World} : Brings (Xcall Try.prog (Value.func (Fn.func 22) #[] #[]) #[.int .i64 s] w) (fun r => r = (.bool (liveM s), w)) := by
  refine e22 ?_
  unfold s22 liveM
  simp only [go_sem]
  have h : (decide (0 < s) && decide (s < 7)) = (decide (1 ≤ s) && decide (s ≤ 6)) := by
    rw [← Bool.decide_and, ← Bool.decide_and]; exact decide_eq_decide.2 (by omega)
  rw [h]
  cases decide (1 ≤ s) <;> simp only [go_sem, Bool.not_false, Bool.not_true, Bool.false_and, Bool.true_and]
  · exact .ret (by simp)
  · cases decide (s ≤ 6) <;> simp only [go_sem, Bool.not_false, Bool.not_true] <;> exact .ret (by simp)
theorem k21 {p s : Int} {w : World} : Brings (Xcall Try.prog (Value.func (Fn.func 21) #[] #[]) #[.int .u8 p, .int .i64 s] w) (fun r => r = (.int .i64 (timeM p s), w)) := by
  refine e21 ?_
  unfold s21 s21M0 s21M1 timeM timeL
  simp only [go_sem]
  cases h6 : p == 6
  · simp only [go_sem, Bool.false_eq_true, if_false]
    have hp : ∀ a b : Int, (((if (p == 17 || p == 47) = true then [(8, 30), (3, 180)] else if (p == 1) = true then [(8, 30), (3, 30)] else [((8 : Int), (0 : Int)), (3, 0)]).find? fun q => s == q.1).map (·.2)).getD 0 =
      if s == 8 then (if p == 17 || p == 47 || p == 1 then 30 else 0) else if s == 3 then (if p == 17 || p == 47 then 180 else if p == 1 then 30 else 0) else 0 := by
      intro _ _
      cases h17 : (p == 17 || p == 47) <;> cases h1 : p == 1 <;> cases h8 : s == 8 <;> cases h3 : s == 3 <;> simp [h8, h3]
    rw [hp 0 0]
    have e17 : p == 17 → (p == 1) = false ∧ (p == 47) = false := by intro h; simp at h ⊢; omega
    have e47 : p == 47 → (p == 1) = false := by intro h; simp at h ⊢; omega
    cases h8 : s == 8 <;> (try simp only [go_sem, bne, h8, Bool.not_false, Bool.not_true]) <;> cases h3 : s == 3 <;> (try simp only [go_sem, h3, Bool.not_false, Bool.not_true]) <;> cases h1 : p == 1 <;> (try simp only [go_sem]) <;> cases h17 : p == 17 <;> (try simp only [go_sem]) <;> cases h47 : p == 47 <;> (try simp only [go_sem]) <;> first
      | (exfalso; simp only [beq_iff_eq, beq_eq_false_iff_ne] at h8 h3 h1 h17 h47; omega)
      | exact .ret (by simp)
  · simp only [go_sem, if_true]
    by_cases a1 : s = 1
    · subst a1; simp [go_sem]; exact .ret rfl
    by_cases a2 : s = 2
    · subst a2; simp [go_sem]; exact .ret rfl
    by_cases a3 : s = 3
    · subst a3; simp [go_sem]; exact .ret rfl
    by_cases a4 : s = 4
    · subst a4; simp [go_sem]; exact .ret rfl
    by_cases a5 : s = 5
    · subst a5; simp [go_sem]; exact .ret rfl
    by_cases a6 : s = 6
    · subst a6; simp [go_sem]; exact .ret rfl
    by_cases a7 : s = 7
    · subst a7; simp [go_sem]; exact .ret rfl
    · have e : ∀ k, s ≠ k → (s == k) = false := fun k h => by simpa using h
      simp only [go_sem, e 1 a1, e 2 a2, e 3 a3, e 4 a4, e 5 a5, e 6 a6, e 7 a7, List.find?]
      exact .ret rfl

theorem l10 {p s : Int} {back : Bool} {w : World} : Brings (s10 (.int .u8 p) (.int .i64 s) (.bool back) w) (fun r => r.1 = .bool true ∧ Bel w r.2) := by
  unfold s10
  refine k14.bind ?_
  rintro ⟨_, w1⟩ ⟨h, b1⟩
  simp only at h b1
  subst h
  simp only [go_sem]
  refine k19.bind ?_
  rintro _ rfl
  simp only
  refine k20.bind ?_
  rintro _ rfl
  simp only [go_sem, beq_self_eq_true]
  refine k18.bind ?_
  rintro ⟨_, w2⟩ ⟨h, b2⟩
  simp only at h b2
  subst h
  simp only
  refine k21.bind ?_
  rintro _ rfl
  simp only [go_sem, beq_self_eq_true]
  refine k17.bind ?_
  rintro _ rfl
  simp only
  refine k22.bind ?_
  rintro _ rfl
  simp only
  rw [Qb_eqlB (by kernel_rfl)]
  simp only [go_sem, beq_self_eq_true]
  exact .ret ⟨rfl, b1.trans b2⟩
theorem law10 {p s : Int} {back : Bool} {w : World} (_ : (Lit.int .u8 p).wf = true) (_ : (Lit.int .i64 s).wf = true) :
    Calls Try.prog 10 #[.int .u8 p, .int .i64 s, .bool back] w fun e w' => e = .returned (.bool true) ∧ Below w.heap.size w w' :=
  walk_of l10 fun _ => c10

end Go.Proofs.Ytmhpecfgipmgaaa
