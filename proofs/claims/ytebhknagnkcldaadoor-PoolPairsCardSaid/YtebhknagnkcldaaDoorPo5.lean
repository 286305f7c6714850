/- The pool: taken. -/
import Derived.Test.YtebhknagnkcldaaDoorPo4
namespace Go.Proofs.YtebhknagnkcldaaDoor
open Go Go.Ev Go.RowKit
open Go.Proofs

theorem enterW_lay' {w w5 : World} {fn : FuncId} {tmps : Array Value} {ps : Array Tmp} {ass bdy : Code} {w0 : World} {os : List Obj} (hE : enterW w fn tmps ps ass bdy = w5) (h : Locals w0 os w) (hs : w.heap.size = w0.heap.size + os.length) :
    ∃ L, Entered L fn tmps ps ass bdy ∧ Locals w0 (os ++ [.deferred (some [])] ++ [.loop L]) w5 := by
  subst hE
  exact enterW_lay h hs

def condN (lo hi : Nat) (U : List Nat) (m n : Nat) : Bool := decide (n % m = 0) && freeN lo hi U n m
/-- The least that may be taken; 0: there is none. -/
def leastN (lo hi : Nat) (U : List Nat) (m : Nat) : Nat := ((List.range (hi + 1)).find? (condN lo hi U m)).getD 0

theorem free_lo {lo hi n m : Nat} {U : List Nat} (h : n < lo) (hm : 1 ≤ m) : freeN lo hi U n m = false := by
  unfold freeN
  rw [List.all_eq_false]
  exact ⟨0, by simp; omega, by rw [Nat.add_zero, ok_lo h]; decide⟩
theorem free_hi {lo hi n m : Nat} {U : List Nat} (h : hi < n) (hm : 1 ≤ m) : freeN lo hi U n m = false := by
  unfold freeN
  rw [List.all_eq_false]
  exact ⟨0, by simp; omega, by rw [Nat.add_zero, ok_hi h]; decide⟩
theorem least_at {lo hi n m : Nat} {U : List Nat} (hn : n ≤ hi) (hc : condN lo hi U m n = true) (hno : ∀ k, k < n → condN lo hi U m k = false) : leastN lo hi U m = n := by
  unfold leastN
  have : (List.range (hi + 1)).find? (condN lo hi U m) = some n := by
    rw [List.find?_range_eq_some]
    exact ⟨hc, by simpa using (by omega : n < hi + 1), fun j hj => by rw [hno j hj]; rfl⟩
  rw [this]; rfl
theorem least_none {lo hi m : Nat} {U : List Nat} (hno : ∀ k, k ≤ hi → condN lo hi U m k = false) : leastN lo hi U m = 0 := by
  unfold leastN
  rw [List.find?_eq_none.2 fun k hk => by
    have : k ≤ hi := by simpa using Nat.le_of_lt_succ (List.mem_range.1 hk)
    rw [hno k this]; decide]
  rfl
theorem least_or {lo hi m : Nat} {U : List Nat} : leastN lo hi U m = 0 ∨ (leastN lo hi U m ≤ hi ∧ condN lo hi U m (leastN lo hi U m) = true) := by
  unfold leastN
  cases e : (List.range (hi + 1)).find? (condN lo hi U m) with
  | none => exact .inl rfl
  | some n =>
    refine .inr ⟨?_, List.find?_some e⟩
    have := List.mem_range.1 (List.mem_of_find?_eq_some e)
    show n ≤ hi
    omega

theorem k38 {S : Nat → Prop} {w : World} {ly p q a lo hi m : Nat} {U : List Nat} (D : World → Prop) (h : Pl w a lo hi U) (hp : w.cell? ⟨p, 0, none⟩ = some (.pointer (some ⟨a, 0, none⟩))) (hq : w.cell? ⟨q, 0, none⟩ = some (.int .i64 (m : Int))) (hm : m = 1 ∨ m = 2)
    (hy : leastN lo hi U m ≠ 0 → Brings (Xcall Tryd.prog (.func (.yield ly) #[] #[]) #[.int .i64 (leastN lo hi U m : Int)] w) fun r => Chg S w r.2 ∧ r.1 = .bool false ∧ D r.2) :
    Brings (Xcall Tryd.prog (Value.func (Fn.func 38) #[] #[.pointer (some ⟨p, 0, none⟩), .pointer (some ⟨q, 0, none⟩)]) #[.func (.yield ly) #[] #[]] w) (fun r => r.1 = .tuple #[] ∧ ((leastN lo hi U m = 0 ∧ r.2 = w) ∨ (leastN lo hi U m ≠ 0 ∧ D r.2 ∧ Chg S w r.2))) := by
  refine e38 ?_
  unfold s38
  have hP := h
  obtain ⟨hb, W, hW, ha⟩ := h
  have one24 : one Tryd.prog 24 = true := by kernel_rfl
  have hb1 := hb.lo1
  have hb2 := hb.le
  have hb3 := hb.hi1
  simp only [Qload_cell one24 hp, fa53x0, pl_lo ha, go_sem]
  refine Brings.loop (fun r xs w' => ∃ n : Nat, xs = [.func (.yield ly) #[] #[], .pointer (some ⟨p, 0, none⟩), .pointer (some ⟨q, 0, none⟩), .int .i64 (n : Int)] ∧ lo ≤ n ∧ n ≤ hi + 1 ∧ r = hi + 1 - n ∧ w' = w ∧ ∀ k, k < n → condN lo hi U m k = false) ?_ (hi + 1 - lo) _ _
    ⟨lo, rfl, by omega, by omega, by omega, rfl, fun k hk => by unfold condN; rw [free_lo hk (by omega), Bool.and_false]⟩
  rintro r xs w' ⟨n, rfl, h1, h2, hr, rfl, hno⟩
  simp only [s38B0, Qload_cell one24 hp, fa53x1, pl_hi ha, go_sem]
  refine .cond (fun hlt => ?_) (fun hlt => ?_)
  · have hlt : n ≤ hi := by
      have : (n : Int) ≤ hi := by simpa using hlt
      omega
    have m0 : (m : Int) ≠ 0 := by omega
    have d1 : (n : Int).tmod (m : Int) = ((n % m : Nat) : Int) := by rw [Int.tmod_eq_emod_of_nonneg (by omega)]; rfl
    have wr : IntKind.i64.wrap ((n : Int) + 1) = ((n + 1 : Nat) : Int) := by rw [wrap_i64 (by omega) (by omega)]; rfl
    have next : condN lo hi U m n = false → ∀ k, k < n + 1 → condN lo hi U m k = false := fun hc k hk => by
      rcases Nat.lt_or_ge k n with h | h
      · exact hno k h
      · have : k = n := by omega
        rw [this]; exact hc
    simp only [Qload_cell one3 hq, Qb_remP m0, d1, go_sem]
    by_cases c1 : n % m = 0
    · have e1 : (((n % m : Nat) : Int) == 0) = true := by rw [c1]; rfl
      simp only [e1, Qload_cell one24 hp, Qload_cell one3 hq, go_sem]
      refine (k33 hP (show n < 65537 by omega) (by omega)).bind ?_
      rintro _ rfl
      cases c2 : freeN lo hi U n m with
      | false =>
        have hc : condN lo hi U m n = false := by unfold condN; rw [c2, Bool.and_false]
        simp only [go_sem]
        rw [wr]
        exact .ret (.inl ⟨rfl, hi + 1 - (n + 1), by omega, n + 1, rfl, by omega, by omega, rfl, rfl, next hc⟩)
      | true =>
        have hc : condN lo hi U m n = true := by unfold condN; rw [c2, decide_eq_true c1]; rfl
        have hl := least_at hlt hc hno
        have hy' := hy (by rw [hl]; omega)
        rw [hl] at hy'
        simp only [go_sem]
        refine hy'.bind ?_
        rintro ⟨_, w3⟩ ⟨h1, h2, h3⟩
        simp only at h1 h2 h3
        subst h2
        simp only [Bool.not_false, go_sem]
        exact .ret (.inr ⟨by simp, .ret ⟨rfl, .inr ⟨by rw [hl]; omega, h3, h1⟩⟩⟩)
    · have e1 : (((n % m : Nat) : Int) == 0) = false := by
        rw [beq_eq_false_iff_ne]; omega
      have hc : condN lo hi U m n = false := by unfold condN; rw [decide_eq_false c1]; rfl
      simp only [e1, go_sem]
      rw [wr]
      exact .ret (.inl ⟨rfl, hi + 1 - (n + 1), by omega, n + 1, rfl, by omega, by omega, rfl, rfl, next hc⟩)
  · have : n = hi + 1 := by
      have : ¬ (n : Int) ≤ hi := by simpa using hlt
      omega
    subst this
    exact .ret (.inr ⟨by simp, .ret ⟨rfl, .inl ⟨least_none fun k hk => hno k (by omega), rfl⟩⟩⟩)

/-! ## So many are taken -/

def insN (U : List Nat) (n : Nat) : Nat → List Nat
  | 0 => U
  | i + 1 => ins (n + i) (insN U n i)
theorem mem_insN {U : List Nat} {n k : Nat} : ∀ {i : Nat}, k ∈ insN U n i ↔ k ∈ U ∨ (n ≤ k ∧ k < n + i)
  | 0 => by simp [insN]; omega
  | i + 1 => by
    simp only [insN, mem_ins, mem_insN (i := i)]
    by_cases hU : k ∈ U
    · simp [hU]
    · simp only [hU, false_or]
      omega
theorem free_at {lo hi n m i : Nat} {U : List Nat} (h : freeN lo hi U n m = true) (hi' : i < m) : lo ≤ n + i ∧ n + i ≤ hi ∧ n + i ∉ U := by
  unfold freeN at h
  rw [List.all_eq_true] at h
  have := h i (by simpa using hi')
  unfold okN at this
  simp only [Bool.and_eq_true, decide_eq_true_eq] at this
  exact ⟨this.1.1, this.1.2, this.2⟩
theorem bnd_insN {lo hi n m : Nat} {U : List Nat} (h : Bnd lo hi U) (hf : freeN lo hi U n m = true) : ∀ {i : Nat}, i ≤ m → Bnd lo hi (insN U n i)
  | 0, _ => h
  | i + 1, hi' => by
    have ih := bnd_insN h hf (i := i) (by omega)
    obtain ⟨h1, h2, h3⟩ := free_at hf (show i < m by omega)
    refine ih.ins ?_
    unfold okN
    have : n + i ∉ insN U n i := by
      rw [mem_insN]
      simp only [h3, false_or]
      omega
    simp [h1, h2, this]

def takenN (lo hi : Nat) (U : List Nat) (wish m : Nat) : Nat := if condN lo hi U m wish = true then wish else leastN lo hi U m
/-- What is told of a taking, and what is taken then. -/
def takeN (lo hi : Nat) (U : List Nat) (wish m : Nat) : (Nat × Int) × List Nat :=
  if takenN lo hi U wish m = 0 then ((0, 9), U) else ((takenN lo hi U wish m, 0), insN U (takenN lo hi U wish m) m)

theorem cond_pos {lo hi n m : Nat} {U : List Nat} (h : Bnd lo hi U) (hm : 1 ≤ m) (hc : condN lo hi U m n = true) : n ≠ 0 ∧ n ≤ hi ∧ freeN lo hi U n m = true := by
  unfold condN at hc
  rw [Bool.and_eq_true] at hc
  have := free_at hc.2 (show 0 < m by omega)
  have := h.lo1
  exact ⟨by omega, by omega, hc.2⟩
theorem taken_or {lo hi wish m : Nat} {U : List Nat} (h : Bnd lo hi U) (hm : 1 ≤ m) : takenN lo hi U wish m = 0 ∨ (takenN lo hi U wish m ≤ hi ∧ freeN lo hi U (takenN lo hi U wish m) m = true ∧ takenN lo hi U wish m % m = 0) := by
  unfold takenN
  by_cases hc : condN lo hi U m wish = true
  · rw [if_pos hc]
    obtain ⟨h1, h2, h3⟩ := cond_pos h hm hc
    unfold condN at hc
    simp at hc
    exact .inr ⟨h2, h3, hc.1⟩
  · rw [if_neg hc]
    rcases least_or (lo := lo) (hi := hi) (m := m) (U := U) with h1 | ⟨h1, h2⟩
    · exact .inl h1
    · refine .inr ⟨h1, (cond_pos h hm h2).2.2, ?_⟩
      unfold condN at h2
      simp at h2
      exact h2.1

/-- What a taking brings. -/
def Took (w : World) (a lo hi : Nat) (t : (Nat × Int) × List Nat) (r : Value × World) : Prop := r.1 = .tuple #[.int .u16 (t.1.1 : Int), .int .i64 t.1.2] ∧ Chg (fun k => k = a) w r.2 ∧ Pl r.2 a lo hi t.2

theorem m28 {w : World} {a lo hi m f fp : Nat} {U : List Nat} {d : List Deferred} (h : Pl w a lo hi U) (hm : m = 1 ∨ m = 2) (hf : w.cell? ⟨fp, 0, none⟩ = some (.int .i64 (f : Int))) (hfa : fp ≠ a) (hfree : f = 0 ∨ freeN lo hi U f m = true)
    (hd : d = [] ∨ ∃ q, d = [{ target := .collected q, args := #[] }] ∧ w.heap[q]? = some (.deferred (some [])) ∧ q ≠ a) {n0 : Nat} (hn0 : ∀ q, d = [{ target := .collected q, args := #[] }] → n0 ≤ q) :
    Brings (s28M0 (.pointer (some ⟨a, 0, none⟩)) (.int .i64 (m : Int)) (.pointer (some ⟨fp, 0, none⟩)) d w) (fun r => ∃ t : (Nat × Int) × List Nat, t = (if f = 0 then ((0, 9), U) else ((f, 0), insN U f m)) ∧ r.1 = .tuple #[.int .u16 (t.1.1 : Int), .int .i64 t.1.2] ∧ Chg (fun k => k = a ∨ n0 ≤ k) w r.2 ∧ Pl r.2 a lo hi t.2) := by
  have take : ∀ w', Pl w' a lo hi (if f = 0 then U else insN U f m) → Chg (fun k => k = a) w w' → ∃ w2, takeAll Tryd.prog d w' = some w2 ∧ Pl w2 a lo hi (if f = 0 then U else insN U f m) ∧ Chg (fun k => k = a ∨ n0 ≤ k) w w2 := fun w' hP hc => by
    rcases hd with rfl | ⟨q, rfl, hq, hqa⟩
    · exact ⟨w', nonrfl rfl, hP, hc.mono fun k _ hk => .inl hk⟩
    · have hq' := hc.at_ hq hqa
      have cq := setB_chg w' q (.deferred none)
      exact ⟨_, takeAll_one hq', hP.chg cq fun e => hqa e.symm, (hc.mono fun k _ hk => Or.inl hk).trans (cq.mono fun k _ hk => Or.inr (by rw [hk]; exact hn0 q rfl)) fun _ _ hk => hk⟩
  unfold s28M0
  simp only [Qload_cell one3 hf, go_sem]
  have hb := h.1
  have hb1 := hb.lo1
  have hb3 := hb.hi1
  by_cases c : f = 0
  · subst c
    have : (((0 : Nat) : Int) == 0) = true := rfl
    simp only [if_true] at take
    obtain ⟨w2, t1, t2, t3⟩ := take w h (.of_bel (Bel.refl _) _)
    simp only [this, t1, go_sem]
    exact .ret ⟨_, rfl, rfl, t3, t2⟩
  · have hfr := hfree.resolve_left c
    have e1 : ((f : Int) == 0) = false := by rw [beq_eq_false_iff_ne]; omega
    rw [if_neg c] at take ⊢
    have fr := free_at hfr (show 0 < m by omega)
    simp only [e1, go_sem]
    refine Brings.loop (fun r xs w' => ∃ i : Nat, xs = [.pointer (some ⟨a, 0, none⟩), .int .i64 (m : Int), .pointer (some ⟨fp, 0, none⟩), .int .i64 ((f + i : Nat) : Int)] ∧ i ≤ m ∧ r = m - i ∧ Pl w' a lo hi (insN U f i) ∧ Chg (fun k => k = a) w w') ?_ m _ _
      ⟨0, rfl, by omega, by omega, h, .of_bel (Bel.refl _) _⟩
    rintro r xs w' ⟨i, rfl, hi', hr, hP, hc⟩
    have hf' : w'.cell? ⟨fp, 0, none⟩ = some (.int .i64 (f : Int)) := by
      have hlt := World.block_lt_of_cell? _ _ hf
      have := hc.block fp hlt hfa
      unfold World.cell? at hf ⊢
      rw [this]; exact hf
    have e2 : IntKind.i64.wrap ((f : Int) + m) = ((f + m : Nat) : Int) := by rw [wrap_i64 (by omega) (by omega)]; rfl
    simp only [s28B2, Qload_cell one3 hf', e2, go_sem]
    refine .cond (fun hlt => ?_) (fun hlt => ?_)
    · have hlt : i < m := by
        have : ((f + i : Nat) : Int) < ((f + m : Nat) : Int) := by simpa using hlt
        omega
      have fi := free_at hfr hlt
      have hd2 := hP.bel ((Bel.refl w').drew)
      obtain ⟨hb', W, hW, ha⟩ := hd2
      have n64 : (64 : Int) ≠ 0 := by decide
      have d1 : ((f + i : Nat) : Int).tdiv 64 = (((f + i) / 64 : Nat) : Int) := by rw [Int.tdiv_eq_ediv_of_nonneg (by omega)]; omega
      have d2 : ((f + i : Nat) : Int).tmod 64 = (((f + i) % 64 : Nat) : Int) := by rw [Int.tmod_eq_emod_of_nonneg (by omega)]; omega
      have d3 : IntKind.i64.wrap (((f + i) / 64 : Nat) : Int) = (((f + i) / 64 : Nat) : Int) := by rw [wrap_i64 (by omega) (by omega)]
      obtain ⟨x, hx, hx2, hx3⟩ := hW.at_ (i := (f + i) / 64) (by omega)
      have m64 : (f + i) % 64 < 64 := Nat.mod_lt _ (by omega)
      have p64 : 2 ^ ((f + i) % 64) < 2 ^ 64 := Nat.pow_lt_pow_right (by omega) m64
      have sh : Qbin Tryd.prog .shl 50 (.int .u64 1) (.int .i64 (((f + i) % 64 : Nat) : Int)) = some (wordV (2 ^ ((f + i) % 64))) := by
        rw [Qb_shl (by omega)]
        have d4 : min (((f + i) % 64 : Nat) : Int).toNat IntKind.u64.bits = (f + i) % 64 := by
          rw [Int.toNat_natCast]
          exact Nat.min_eq_left (by show (f + i) % 64 ≤ 64; omega)
        rw [d4, show (1 : Int) * 2 ^ ((f + i) % 64) = ((2 ^ ((f + i) % 64) : Nat) : Int) by simp, wrap_u rfl p64]
        rfl
      have an : Qbin Tryd.prog .or 50 (wordV x) (wordV (2 ^ ((f + i) % 64))) = some (wordV (x ||| 2 ^ ((f + i) % 64))) := by
        unfold wordV
        rw [Qb_or, ior_u (k := .u64) rfl hx3 p64]
      obtain ⟨w2, s1, s2, s3⟩ := pl_set ha hW.len (x ||| 2 ^ ((f + i) % 64)) (show (f + i) / 64 < 1024 by omega)
      have e3 : IntKind.i64.wrap (((f + i : Nat) : Int) + 1) = ((f + (i + 1) : Nat) : Int) := by rw [wrap_i64 (by omega) (by omega)]; rfl
      simp only [Qb_quoP n64, Qb_remP n64, d1, d2, d3, fa53x2, at51 w'.drew (show (f + i) / 64 < 1024 by omega), pl_at ha hx, sh, an, s1, e3, go_sem]
      refine .ret (.inl ⟨rfl, m - (i + 1), by omega, i + 1, rfl, by omega, rfl, ⟨bnd_insN hb hfr (by omega), _, words_set hW (by omega) hx2 hx3, s2⟩, ?_⟩)
      exact hc.trans (((Bel.refl w').drew).thenChg s3) fun _ _ hk => hk
    · have : i = m := by
        have : ¬ ((f + i : Nat) : Int) < ((f + m : Nat) : Int) := by simpa using hlt
        omega
      subst this
      obtain ⟨w2, t1, t2, t3⟩ := take w' hP hc
      have cv : Qconv Tryd.prog 3 22 (.int .i64 (f : Int)) = some (.int .u16 (f : Int)) := by
        rw [Qconv_int (k := .u16) (by kernel_rfl), wrap_u rfl (show f < 2 ^ IntKind.u16.bits by show f < 65536; omega)]
      refine .ret (.inr ⟨by simp, ?_⟩)
      simp only [s28R2, Qload_cell one3 hf', cv, t1, go_sem]
      exact .ret ⟨_, rfl, rfl, t3, t2⟩

end Go.Proofs.YtebhknagnkcldaaDoor
