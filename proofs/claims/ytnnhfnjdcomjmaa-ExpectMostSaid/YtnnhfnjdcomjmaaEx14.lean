/- Laws: what is expected comes once; as many as the limits. -/
import Derived.Test.YtnnhfnjdcomjmaaEx13
namespace Go.Proofs.Ytnnhfnjdcomjmaa
open Go Go.Ev Go.RowKit
open Go.Proofs

theorem law11 {v0 : Value} {n0 : Nat} {port now : Int} {w : World} {r0 : Reach} {b0 : Nat} (ho0 : Value.okWide Try.prog w r0 b0 55 v0) (h0 : Okc Try.prog w n0 55 v0.cells.toList) (hp : (Lit.int .u16 port).wf = true) (hn : (Lit.int .u8 now).wf = true) :
    Calls Try.prog 11 #[v0, .int .u16 port, .int .u8 now] w fun e w' => e = .returned (.bool true) ∧ Below w.heap.size w w' := by
  obtain ⟨x, y, rfl, hx⟩ : ∃ x y, v0 = .agg #[.int .u32 x, .int .u32 y] ∧ (Lit.int .u32 x).wf = true := by
    obtain ⟨x, y, rfl⟩ := open55 ho0 h0
    refine ⟨x, y, rfl, ?_⟩
    cases n0 with
    | zero => exact h0.elim
    | succ n =>
      unfold Okc at h0
      rw [(by kernel_rfl : Try.prog.underlying 55 = some (.array 2 22))] at h0
      obtain ⟨_, hf⟩ := h0
      have h1 := hf 0 (by decide)
      rw [show Try.prog.cellsOf 22 = 1 from by kernel_rfl] at h1
      obtain ⟨m, hm, hwf⟩ := okc_int (k := .u32) (by kernel_rfl) h1
      injection hm with _ hm
      rw [hm]; exact hwf
  obtain ⟨m, rfl, hm⟩ := wf_u rfl hn
  have hm : m < 256 := hm
  exact law_of (l11 (by omega) (by omega) fun p e => ⟨by show (Lit.int .u8 6).wf = true; decide +kernel, hx, by show (Lit.int .u32 5).wf = true; decide +kernel, by show (Lit.int .u16 0).wf = true; decide +kernel, by rw [e]; exact hp, by show (Lit.int .u32 6).wf = true; decide +kernel, by show (Lit.int .u16 7).wf = true; decide +kernel, by show (Lit.int .i64 3).wf = true; decide +kernel, by show (Lit.int .i64 100).wf = true; decide +kernel⟩) fun _ => c11

/-! ## As many as the limits -/

def expI (m i : Nat) : Exp := ⟨6, 0, 1, 0, ((i + 1 : Nat) : Int), 2, 3, ((i % m : Nat) : Int), 9⟩
def someE (m n : Nat) : List Exp := (List.range n).map (expI m)
theorem someE_len (m n : Nat) : (someE m n).length = n := by simp [someE]
theorem someE_next (m n : Nat) : someE m (n + 1) = someE m n ++ [expI m n] := by simp [someE, List.range_succ]
theorem right_i (m i : Nat) : rightM (expI m i) = true := by
  have h1 : (((i + 1 : Nat) : Int) != 0) = true := by simp; omega
  have h2 : decide ((0 : Int) ≤ ((i % m : Nat) : Int)) = true := decide_eq_true (Int.natCast_nonneg _)
  unfold rightM expI
  simp only [h1, h2]
  rfl

theorem cnt_own {m : Nat} (hm : 0 < m) {r : Nat} (hr : r < m) : ∀ n, ((someE m n).filter (masterP (r : Int))).length = (n + (m - 1 - r)) / m
  | 0 => by
    rw [Nat.zero_add, Nat.div_eq_of_lt (by omega)]
    rfl
  | n + 1 => by
    rw [someE_next, List.filter_append, List.length_append, cnt_own hm hr n]
    have e : n + 1 + (m - 1 - r) = (n + (m - 1 - r)) + 1 := by omega
    rw [e, Nat.succ_div]
    have key : masterP (r : Int) (expI m n) = decide (m ∣ n + (m - 1 - r) + 1) := by
      unfold masterP expI
      rw [Bool.eq_iff_iff]
      simp only [beq_iff_eq, decide_eq_true_eq]
      have e2 : n + (m - 1 - r) + 1 = n + m - r := by omega
      rw [e2]
      constructor
      · intro h
        have h : n % m = r := by omega
        have := Nat.div_add_mod n m
        refine ⟨n / m + 1, ?_⟩
        rw [Nat.mul_add, Nat.mul_one]
        omega
      · rintro ⟨k, hk⟩
        have hk0 : 0 < k := by
          rcases Nat.eq_zero_or_pos k with h | h
          · subst h; omega
          · exact h
        obtain ⟨j, rfl⟩ : ∃ j, k = j + 1 := ⟨k - 1, by omega⟩
        rw [Nat.mul_add, Nat.mul_one] at hk
        have : n = m * j + r := by omega
        rw [this, Nat.mul_add_mod, Nat.mod_eq_of_lt hr]
    by_cases h : m ∣ n + (m - 1 - r) + 1
    · rw [if_pos h, List.filter_cons_of_pos (by rw [key]; simpa using h)]; rfl
    · rw [if_neg h, List.filter_cons_of_neg (by rw [key]; simpa using h)]; rfl

def kept (m i : Nat) : Nat := min i (min (4 * m) 32)
theorem add_i {m i : Nat} (hm : 0 < m) : addM (someE m (kept m i)) (expI m i) = (if 32 ≤ kept m i ∨ 4 ≤ i / m then 9 else 0, someE m (kept m (i + 1))) := by
  have hk : (someE m (kept m i)).any (sameP (expI m i)) = false := by
    rw [List.any_eq_false]
    intro x hx
    obtain ⟨j, hj, rfl⟩ := List.mem_map.1 hx
    have hj := List.mem_range.1 hj
    unfold kept at hj
    simp [sameP, expI]
    omega
  have ho : ownM (expI m i) (someE m (kept m i)) = (kept m i + (m - 1 - i % m)) / m := cnt_own hm (Nat.mod_lt _ hm) _
  unfold addM
  rw [right_i, hk, ho, someE_len]
  simp only [Bool.true_eq_false, Bool.false_eq_true, if_false]
  have dm := Nat.div_add_mod i m
  have lm := Nat.mod_lt i hm
  by_cases h32 : 32 ≤ kept m i
  · rw [if_pos (.inl h32), if_pos (.inl h32)]
    have : kept m (i + 1) = kept m i := by unfold kept at *; omega
    rw [this]
  · by_cases h4 : 4 ≤ i / m
    · have h4m : 4 * m ≤ i := by
        have := Nat.mul_le_mul_left m h4
        rw [Nat.mul_comm m 4] at this
        omega
      have ek : kept m i = 4 * m := by unfold kept at *; omega
      have ek1 : kept m (i + 1) = 4 * m := by unfold kept at *; omega
      have : (4 * m + (m - 1 - i % m)) / m = 4 := by
        rw [Nat.mul_comm, Nat.mul_add_div hm, Nat.div_eq_of_lt (by omega)]
      rw [ek, this, if_pos (.inr (Nat.le_refl 4)), if_pos (.inr h4), ek1]
    · have hlt : i < 4 * m := by
        have : i / m ≤ 3 := by omega
        have := Nat.mul_le_mul_left m this
        omega
      have ek : kept m i = i := by unfold kept at *; omega
      have ek1 : kept m (i + 1) = i + 1 := by unfold kept at *; omega
      have : (i + (m - 1 - i % m)) / m = i / m := by
        have e : i + (m - 1 - i % m) = m * (i / m) + (m - 1) := by omega
        rw [e, Nat.mul_add_div hm, Nat.div_eq_of_lt (show m - 1 < m by omega), Nat.add_zero]
      rw [ek] at h32
      rw [ek, this, if_neg (by omega), if_neg (by omega), ek1, someE_next]

theorem buildI (p m : Int) (w : World) : Qbuild Try.prog 25 #[(0, .int .u8 6), (2, .int .u32 1), (4, .int .u16 p), (5, .int .u32 2), (6, .int .u16 3), (7, .int .i64 m), (8, .int .i64 9)] w = some (⟨6, 0, 1, 0, p, 2, 3, m, 9⟩ : Exp).v := by kernel_rfl
theorem ok_i {m i : Nat} (h : i < 60) (hm : i % m < 60) : (expI m i).ok := by
  refine ⟨by show (Lit.int .u8 6).wf = true; decide +kernel, by show (Lit.int .u32 0).wf = true; decide +kernel, by show (Lit.int .u32 1).wf = true; decide +kernel, by show (Lit.int .u16 0).wf = true; decide +kernel, ?_, by show (Lit.int .u32 2).wf = true; decide +kernel, by show (Lit.int .u16 3).wf = true; decide +kernel, ?_, by show (Lit.int .i64 9).wf = true; decide +kernel⟩
  · have : ∀ j : Fin 60, (Lit.int .u16 ((j.val + 1 : Nat) : Int)).wf = true := by decide +kernel
    exact this ⟨i, h⟩
  · have : ∀ j : Fin 60, (Lit.int .i64 ((j.val : Nat) : Int)).wf = true := by decide +kernel
    exact this ⟨i % m, hm⟩

theorem l4 {w : World} {n ms : Nat} (hn : n < 256) (hms : ms < 256) : Brings (s4 (.int .u8 n) (.int .u8 ms) w) (Yes w) := by
  unfold s4
  refine k12.bind ?_
  rintro ⟨_, w1⟩ ⟨a, sa, h1, b1, oa, fa⟩
  simp only at h1 b1 oa
  subst h1
  simp only [conv53 (n := (n : Int)) (by omega) (by omega), conv53 (n := (ms : Int)) (by omega) (by omega), go_sem]
  rw [Qb_remP (by omega), show (n : Int).tmod 60 = ((n % 60 : Nat) : Int) from rfl]
  simp only [go_sem]
  rw [Qb_remP (by omega), show (ms : Int).tmod 20 = ((ms % 20 : Nat) : Int) from rfl]
  simp only [go_sem]
  rw [wrap_i64 (by omega) (by omega), show ((ms % 20 : Nat) : Int) + 1 = ((ms % 20 + 1 : Nat) : Int) from rfl]
  have hk : n % 60 < 60 := Nat.mod_lt _ (by decide)
  have hm1 : ms % 20 < 20 := Nat.mod_lt _ (by decide)
  generalize n % 60 = k at hk
  obtain ⟨m, hm⟩ : ∃ m, m = ms % 20 + 1 := ⟨_, rfl⟩
  rw [← hm]
  have hm0 : 0 < m := by omega
  have hm20 : m ≤ 20 := by omega
  clear hm hm1
  refine Brings.loop (fun q xs w' => ∃ (i : Nat) (sl : Value), xs = [.bool false, .pointer (some ⟨a, 0, none⟩), .int .i64 k, .int .i64 m, .int .i64 (kept m i), .int .i64 i] ∧ i ≤ k ∧ q = k - i ∧ Bel w w' ∧ Bk 58 w' a sl (someE m (kept m i)) ∧ ∀ k, Foot a sl k → w.heap.size ≤ k) ?_ k _ _ ⟨0, sa, rfl, by omega, by omega, b1, oa, fa⟩
  rintro q xs w' ⟨i, sl, rfl, hi, hq, hb, ho, hf⟩
  simp only [s4B0, go_sem]
  refine .cond (fun hlt => ?_) (fun hlt => ?_)
  · have hlt : i < k := by
      have : (i : Int) < k := by simpa using hlt
      omega
    have w1' : IntKind.i64.wrap ((i : Int) + 1) = ((i + 1 : Nat) : Int) := by rw [wrap_i64 (by omega) (by omega)]; rfl
    have lm := Nat.mod_lt i hm0
    have dv : i / m ≤ i := Nat.div_le_self _ _
    have w3' : IntKind.i64.wrap ((i / m : Nat) : Int) = ((i / m : Nat) : Int) := by
      generalize i / m = d at dv
      exact wrap_i64 (by omega) (by omega)
    rw [w1', Qconv_int (k := .u16) (by kernel_rfl), wrap_u rfl (show i + 1 < 2 ^ IntKind.u16.bits from by show _ < 65536; omega)]
    simp only [go_sem]
    rw [Qb_remP (by omega), show (i : Int).tmod m = ((i % m : Nat) : Int) from rfl]
    simp only [buildI, go_sem]
    refine (k13 (x := expI m i) ho (ok_i (by omega) (by omega))).bind ?_
    rw [add_i hm0]
    rintro ⟨_, w2⟩ hd
    obtain ⟨rfl, b2, sl2, o2, f2⟩ := did_new hb hd hf
    have kle : kept m i ≤ i := by unfold kept; omega
    by_cases h32 : 32 ≤ kept m i
    · have e1 : decide ((32 : Int) ≤ (kept m i : Int)) = true := by rw [decide_eq_true_iff]; omega
      have ek : kept m (i + 1) = kept m i := by unfold kept at *; omega
      simp only [go_sem, e1, h32, true_or, if_true, Qb_neqB (P := Try.prog) (t := 4) (by kernel_rfl), beq_self_eq_true, bne_self_eq_false, Bool.not_true]
      exact .ret (.inl ⟨rfl, k - (i + 1), by omega, i + 1, sl2, by rw [ek], by omega, rfl, b2, o2, f2⟩)
    · have e1 : decide ((32 : Int) ≤ (kept m i : Int)) = false := by rw [decide_eq_false_iff_not]; omega
      simp only [go_sem, e1]
      rw [Qb_quoP (by omega), show (i : Int).tdiv m = ((i / m : Nat) : Int) from rfl, w3']
      simp only [go_sem]
      by_cases h4 : 4 ≤ i / m
      · have e2 : decide ((4 : Int) ≤ ((i / m : Nat) : Int)) = true := by rw [decide_eq_true_iff]; omega
        have h4m : 4 * m ≤ i := by
          have := Nat.mul_le_mul_left m h4
          have := Nat.div_add_mod i m
          rw [Nat.mul_comm m 4] at *
          omega
        have ek : kept m (i + 1) = kept m i := by unfold kept at *; omega
        simp only [go_sem, e2, h4, or_true, if_true, Qb_neqB (P := Try.prog) (t := 4) (by kernel_rfl), beq_self_eq_true, bne_self_eq_false, Bool.not_true]
        exact .ret (.inl ⟨rfl, k - (i + 1), by omega, i + 1, sl2, by rw [ek], by omega, rfl, b2, o2, f2⟩)
      · have e2 : decide ((4 : Int) ≤ ((i / m : Nat) : Int)) = false := by rw [decide_eq_false_iff_not]; omega
        have hlt4 : i < 4 * m := by
          have h3 : i / m ≤ 3 := by omega
          have := Nat.mul_le_mul_left m h3
          have := Nat.div_add_mod i m
          have := Nat.mod_lt i hm0
          omega
        have ek : kept m (i + 1) = kept m i + 1 := by unfold kept at *; omega
        have e3 : ((0 : Int) == 9) = false := rfl
        have w2' : IntKind.i64.wrap ((kept m i : Int) + 1) = ((kept m i + 1 : Nat) : Int) := by rw [wrap_i64 (by omega) (by omega)]; rfl
        simp only [go_sem, e2, h4, h32, or_self, if_false, Qb_neqB (P := Try.prog) (t := 4) (by kernel_rfl), e3, bne_self_eq_false, Bool.not_false, w2']
        exact .ret (.inl ⟨rfl, k - (i + 1), by omega, i + 1, sl2, by rw [ek], by omega, rfl, b2, o2, f2⟩)
  · have : i = k := by
      have : ¬ (i : Int) < k := by simpa using hlt
      omega
    subst this
    refine .ret (.inr ⟨by simp, ?_⟩)
    simp only [s4R0]
    refine k15.bind ?_
    rintro ⟨_, w2⟩ ⟨e1, b2⟩
    simp only at e1 b2
    subst e1
    simp only [go_sem]
    refine (k17 (ho.bel b2)).bind ?_
    rintro ⟨v, w3⟩ hf3
    simp only [(Rows.view hf3).len und32, someE_len, beq_self_eq_true, go_sem]
    exact .ret ⟨rfl, (hb.trans b2).trans hf3.1⟩

theorem law4 {n m : Int} {w : World} (h : (Lit.int .u8 n).wf = true) (h' : (Lit.int .u8 m).wf = true) : Calls Try.prog 4 #[.int .u8 n, .int .u8 m] w fun e w' => e = .returned (.bool true) ∧ Below w.heap.size w w' := by
  obtain ⟨a, rfl, ha⟩ := wf_u rfl h
  obtain ⟨b, rfl, hb⟩ := wf_u rfl h'
  exact law_of (l4 ha hb) fun _ => c4

end Go.Proofs.Ytnnhfnjdcomjmaa
