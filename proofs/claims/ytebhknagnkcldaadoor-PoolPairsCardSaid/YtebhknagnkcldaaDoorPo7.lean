/- The reference's pool: in memory; what it has, what is free. -/
import Derived.Test.YtebhknagnkcldaaDoorPo6
namespace Go.Proofs.YtebhknagnkcldaaDoor
open Go Go.Ev Go.RowKit
open Go.Proofs

/-- The document's pool. -/
structure Rl (w : World) (b : Nat) (sv : Value) (lo hi : Nat) (U : List Nat) : Prop where
  bnd : Bnd lo hi U
  cells : w.heap[b]? = some (.cells #[.int .i64 (lo : Int), .int .i64 (hi : Int), sv] 58 (0, 0))
  own : OwnN 3 .i64 w sv (toI U)
  apart : ∀ q, sv.ownBlock = some q → q ≠ b

/-- The blocks of one. -/
def FootR (b : Nat) (sv : Value) (k : Nat) : Prop := k = b ∨ sv.ownBlock = some k

section rl
variable {w w' : World} {b lo hi : Nat} {sv : Value} {U : List Nat}
theorem Rl.chg {S : Nat → Prop} (h : Rl w b sv lo hi U) (hc : Chg S w w') (hs : ∀ k, FootR b sv k → ¬ S k) : Rl w' b sv lo hi U :=
  ⟨h.bnd, hc.at_ h.cells (hs b (.inl rfl)), h.own.chg hc fun q hq => hs q (.inr hq), h.apart⟩
theorem Rl.bel (h : Rl w b sv lo hi U) (hb : Bel w w') : Rl w' b sv lo hi U := h.chg (.of_bel hb fun _ => False) fun _ _ f => f
theorem Rl.lt (h : Rl w b sv lo hi U) : ∀ k, FootR b sv k → k < w.heap.size := fun k hk => by
  rcases hk with rfl | hk
  · exact (Array.getElem?_eq_some_iff.1 h.cells).1
  · exact h.own.lt hk
theorem Rl.lo_ (h : Rl w b sv lo hi U) : Qload Tryd.prog 3 (.pointer (some ⟨b, 0, none⟩)) w = some (.int .i64 lo) := Qload_cell one3 (cell_at h.cells rfl)
theorem Rl.hi_ (h : Rl w b sv lo hi U) : Qload Tryd.prog 3 (.pointer (some ⟨b, 1, none⟩)) w = some (.int .i64 hi) := Qload_cell one3 (cell_at h.cells rfl)
theorem Rl.l_ (h : Rl w b sv lo hi U) : Qload Tryd.prog 56 (.pointer (some ⟨b, 2, none⟩)) w = some sv := Qload_cell one56 (cell_at h.cells rfl)
theorem Rl.len (h : Rl w b sv lo hi U) (w2 : World) : Qlen Tryd.prog #[56] 3 #[sv] w2 = some (.int .i64 U.length) := by
  have := t56.len h.own.view (ty := 3) w2
  rwa [toI_len] at this
theorem Rl.small (h : Rl w b sv lo hi U) : U.length ≤ 65536 := asc_len h.bnd.asc fun u hu => by have := h.bnd.mem u hu; have := h.bnd.hi1; omega
theorem Rl.lt16 (h : Rl w b sv lo hi U) {u : Nat} (hu : u ∈ U) : u < 65536 := by have := h.bnd.mem u hu; have := h.bnd.hi1; omega
theorem Rl.get (h : Rl w b sv lo hi U) {j : Nat} (hj : j < U.length) : ∃ u a, U[j]? = some u ∧ (∀ w2, QindexAddr Tryd.prog 56 sv (.int .i64 (j : Int)) w2 = some (.pointer (some a))) ∧ Qload Tryd.prog 3 (.pointer (some a)) w = some (.int .i64 (u : Int)) := by
  obtain ⟨x, a, hx, h1, h2⟩ := t56.get h.own.view (j := j) (by rw [toI_len]; exact hj)
  unfold toI at hx
  rw [List.getElem?_map] at hx
  cases hu : U[j]? with
  | none => rw [hu] at hx; cases hx
  | some u =>
    rw [hu] at hx
    injection hx with hx
    subst hx
    exact ⟨u, a, rfl, h1, h2⟩
theorem inf56 : ∃ i, Tryd.prog.info? 56 = some i ∧ i.size = 1 := ⟨(Tryd.prog.info? 56).get (by kernel_rfl), by kernel_rfl, by kernel_rfl⟩
theorem rl_set {v : Value} (h : Rl w b sv lo hi U) (hv : ∃ x n c, v = .slice x n c) : Xstore Tryd.prog 56 (.pointer (some ⟨b, 2, none⟩)) v w = some (undef, w.setRow b #[.int .i64 (lo : Int), .int .i64 (hi : Int), v]) := by
  obtain ⟨x, n, c, rfl⟩ := hv
  obtain ⟨i, hi', hs⟩ := inf56
  rw [Xstore_row (P := Tryd.prog) (t := 56) (v := .slice x n c) hi' (by rw [hs]; rfl) h.cells (o := 2) (by rw [hs]; simp) (by intro u hu; simp [Value.cells] at hu; subst hu; rfl)]
  rw [hs]
  rfl
end rl

theorem take_next {U : List Nat} {i u : Nat} (hu : U[i]? = some u) : U.take (i + 1) = U.take i ++ [u] := by
  rw [List.take_add_one, hu]; rfl

theorem k27 {w : World} {b lo hi n : Nat} {sv : Value} {U : List Nat} (h : Rl w b sv lo hi U) (hn : n < 65536) : Brings (Xcall Tryd.prog (Value.func (Fn.func 27) #[] #[]) #[.pointer (some ⟨b, 0, none⟩), .int .u16 (n : Int)] w) (fun r => r = (.bool (decide (n ∈ U)), w)) := by
  refine e27 ?_
  unfold s27
  have hl := h.small
  refine Brings.loop (fun m xs w' => ∃ i : Nat, xs = [.pointer (some ⟨b, 0, none⟩), .int .u16 (n : Int), .bool false, .int .i64 (i : Int)] ∧ i ≤ U.length ∧ m = U.length - i ∧ w' = w ∧ n ∉ U.take i) ?_ U.length _ _
    ⟨0, rfl, by omega, by omega, rfl, by simp⟩
  rintro m xs w' ⟨i, rfl, hi', hm, rfl, hno⟩
  simp only [s27B0, go_sem, Qb_neqP (P := Tryd.prog) (t := 25) (e := 58) ptr25, Option.isSome_some, fa58x2, h.l_, h.len]
  refine .cond (fun hlt => ?_) (fun hlt => ?_)
  · have hlt : i < U.length := by
      have : (i : Int) < U.length := by simpa using hlt
      omega
    obtain ⟨u, a, hu, hix, hld⟩ := h.get hlt
    have cv : Qconv Tryd.prog 22 3 (.int .u16 (n : Int)) = some (.int .i64 (n : Int)) := by rw [Qconv_int (k := .i64) (by kernel_rfl), wrap_i64 (by omega) (by omega)]
    simp only [fa58x2, h.l_, hix, hld, cv, go_sem]
    refine .cond (fun he => ?_) (fun he => ?_)
    · have : u = n := by
        have : (u : Int) = n := by simpa using he
        omega
      subst this
      refine .ret (.inr ⟨by simp, .ret ?_⟩)
      rw [decide_eq_true (List.mem_of_getElem? hu)]
    · have hne : u ≠ n := by
        have : ¬ (u : Int) = n := by simpa using he
        omega
      rw [wrap_i64 (by omega) (by omega)]
      refine .ret (.inl ⟨rfl, U.length - (i + 1), by omega, i + 1, rfl, by omega, rfl, rfl, ?_⟩)
      rw [take_next hu, List.mem_append, not_or]
      exact ⟨hno, by simpa using fun e => hne e.symm⟩
  · have : i = U.length := by
      have : ¬ (i : Int) < U.length := by simpa using hlt
      omega
    subst this
    rw [List.take_length] at hno
    refine .ret (.inr ⟨by simp, .ret ?_⟩)
    rw [decide_eq_false hno]

theorem k35 {w : World} {b lo hi n : Nat} {sv : Value} {U : List Nat} (h : Rl w b sv lo hi U) (hn : n < 65538) : Brings (Xcall Tryd.prog (Value.func (Fn.func 35) #[] #[]) #[.pointer (some ⟨b, 0, none⟩), .int .i64 (n : Int)] w) (fun r => r = (.bool (okN lo hi U n), w)) := by
  refine e35 ?_
  unfold s35
  simp only [go_sem, fa58x0, h.lo_]
  have hb3 := h.bnd.hi1
  by_cases c1 : n < lo
  · have d1 : decide ((lo : Int) ≤ (n : Int)) = false := by rw [decide_eq_false_iff_not]; omega
    simp only [d1, go_sem]
    rw [ok_lo c1]
    exact .ret rfl
  · have d1 : decide ((lo : Int) ≤ (n : Int)) = true := by rw [decide_eq_true_iff]; omega
    simp only [d1, fa58x1, h.hi_, go_sem]
    by_cases c2 : hi < n
    · have d2 : decide ((n : Int) ≤ (hi : Int)) = false := by rw [decide_eq_false_iff_not]; omega
      simp only [d2, go_sem]
      rw [ok_hi c2]
      exact .ret rfl
    · have d2 : decide ((n : Int) ≤ (hi : Int)) = true := by rw [decide_eq_true_iff]; omega
      have cv : Qconv Tryd.prog 3 22 (.int .i64 (n : Int)) = some (.int .u16 (n : Int)) := by
        rw [Qconv_int (k := .u16) (by kernel_rfl), wrap_u rfl (show n < 2 ^ IntKind.u16.bits by show n < 65536; omega)]
      simp only [d2, cv, go_sem]
      refine (k27 h (by omega)).bind ?_
      rintro _ rfl
      simp only [go_sem]
      refine .ret ?_
      unfold okN
      have q1 : decide (lo ≤ n) = true := by rw [decide_eq_true_iff]; omega
      have q2 : decide (n ≤ hi) = true := by rw [decide_eq_true_iff]; omega
      rw [q1, q2]
      by_cases c3 : n ∈ U <;> simp [c3]

theorem cond1 {lo hi n : Nat} {U : List Nat} : condN lo hi U 1 n = okN lo hi U n := by
  unfold condN freeN
  rw [decide_eq_true (Nat.mod_one n), Bool.true_and]
  simp
theorem cond2 {lo hi n : Nat} {U : List Nat} : condN lo hi U 2 n = (decide (n % 2 = 0) && (okN lo hi U n && okN lo hi U (n + 1))) := by
  unfold condN freeN
  congr 1
  rw [show List.range 2 = [0, 1] from rfl]
  simp

theorem k36 {w : World} {b lo hi : Nat} {sv : Value} {U : List Nat} {two : Bool} (h : Rl w b sv lo hi U) : Brings (Xcall Tryd.prog (Value.func (Fn.func 36) #[] #[]) #[.pointer (some ⟨b, 0, none⟩), .bool two] w) (fun r => r = (.int .i64 (leastN lo hi U (if two = true then 2 else 1) : Int), w)) := by
  refine e36 ?_
  unfold s36
  simp only [go_sem, fa58x0, h.lo_]
  have hb2 := h.bnd.le
  have hb3 := h.bnd.hi1
  have m1 : 1 ≤ (if two = true then 2 else 1) := by split <;> omega
  generalize hmm : (if two = true then 2 else 1) = mm at m1
  refine Brings.loop (fun r xs w' => ∃ n : Nat, xs = [.pointer (some ⟨b, 0, none⟩), .bool two, .int .i64 0, .int .i64 (n : Int)] ∧ lo ≤ n ∧ n ≤ hi + 1 ∧ r = hi + 1 - n ∧ w' = w ∧ ∀ k, k < n → condN lo hi U mm k = false) ?_ (hi + 1 - lo) _ _
    ⟨lo, rfl, by omega, by omega, by omega, rfl, fun k hk => by unfold condN; rw [free_lo hk m1, Bool.and_false]⟩
  rintro r xs w' ⟨n, rfl, h1, h2, hr, rfl, hno⟩
  simp only [s36B0, go_sem, fa58x1, h.hi_]
  refine .cond (fun hlt => ?_) (fun hlt => ?_)
  · have hlt : n ≤ hi := by
      have : (n : Int) ≤ hi := by simpa using hlt
      omega
    have wr : IntKind.i64.wrap ((n : Int) + 1) = ((n + 1 : Nat) : Int) := by rw [wrap_i64 (by omega) (by omega)]; rfl
    have d1 : (n : Int).tmod 2 = ((n % 2 : Nat) : Int) := by rw [Int.tmod_eq_emod_of_nonneg (by omega)]; rfl
    have n2 : (2 : Int) ≠ 0 := by decide
    have hit : condN lo hi U mm n = true → Brings (some (Exit.ret, [Value.pointer (some ⟨b, 0, none⟩), .bool two, .int .i64 (n : Int), .int .i64 (n : Int)], w')) (fun r_1 => (r_1.1 = .normal ∧ ∃ m, m < r ∧ ∃ n : Nat, r_1.2.1 = [.pointer (some ⟨b, 0, none⟩), .bool two, .int .i64 0, .int .i64 (n : Int)] ∧ lo ≤ n ∧ n ≤ hi + 1 ∧ m = hi + 1 - n ∧ r_1.2.2 = w' ∧ ∀ k, k < n → condN lo hi U mm k = false) ∨ (r_1.1 ≠ .normal ∧ Brings (s36R0 r_1.1 r_1.2.1 r_1.2.2) fun r => r = (.int .i64 (leastN lo hi U mm : Int), w'))) := fun hc => by
      refine .ret (.inr ⟨by simp, .ret ?_⟩)
      rw [least_at hlt hc hno]
    have miss : condN lo hi U mm n = false → Brings (some (Exit.normal, [Value.pointer (some ⟨b, 0, none⟩), .bool two, .int .i64 0, .int .i64 ((n + 1 : Nat) : Int)], w')) (fun r_1 => (r_1.1 = .normal ∧ ∃ m, m < r ∧ ∃ n : Nat, r_1.2.1 = [.pointer (some ⟨b, 0, none⟩), .bool two, .int .i64 0, .int .i64 (n : Int)] ∧ lo ≤ n ∧ n ≤ hi + 1 ∧ m = hi + 1 - n ∧ r_1.2.2 = w' ∧ ∀ k, k < n → condN lo hi U mm k = false) ∨ (r_1.1 ≠ .normal ∧ Brings (s36R0 r_1.1 r_1.2.1 r_1.2.2) fun r => r = (.int .i64 (leastN lo hi U mm : Int), w'))) := fun hc => by
      refine .ret (.inl ⟨rfl, hi + 1 - (n + 1), by omega, n + 1, rfl, by omega, by omega, rfl, rfl, fun k hk => ?_⟩)
      rcases Nat.lt_or_ge k n with h | h
      · exact hno k h
      · have : k = n := by omega
        rw [this]; exact hc
    refine (k35 h (show n < 65538 by omega)).bind ?_
    rintro _ rfl
    cases two with
    | false =>
      have hmm : 1 = mm := hmm
      subst hmm
      rw [cond1] at hit miss
      cases c : okN lo hi U n with
      | false =>
        simp only [go_sem]
        rw [wr]
        exact miss c
      | true =>
        simp only [go_sem, Bool.not_false]
        exact hit c
    | true =>
      have hmm : 2 = mm := hmm
      subst hmm
      rw [cond2] at hit miss
      cases c : okN lo hi U n with
      | false =>
        simp only [go_sem]
        rw [wr]
        exact miss (by rw [c]; simp)
      | true =>
        simp only [go_sem, Bool.not_true, Qb_remP n2, d1]
        by_cases c2 : n % 2 = 0
        · have e1 : (((n % 2 : Nat) : Int) == 0) = true := by rw [c2]; rfl
          simp only [e1, wr, go_sem]
          refine (k35 h (show n + 1 < 65538 by omega)).bind ?_
          rintro _ rfl
          cases c3 : okN lo hi U (n + 1) with
          | false =>
            simp only [wr, go_sem]
            exact miss (by rw [c3]; simp)
          | true =>
            simp only [go_sem]
            exact hit (by rw [c, c3, decide_eq_true c2]; rfl)
        · have e1 : (((n % 2 : Nat) : Int) == 0) = false := by rw [beq_eq_false_iff_ne]; omega
          simp only [e1, wr, go_sem]
          exact miss (by rw [decide_eq_false c2]; rfl)
  · have : n = hi + 1 := by
      have : ¬ (n : Int) ≤ hi := by simpa using hlt
      omega
    subst this
    refine .ret (.inr ⟨by simp, .ret ?_⟩)
    rw [least_none fun k hk => hno k (by omega)]
    rfl

end Go.Proofs.YtebhknagnkcldaaDoor
