/- The reference's pool: taken, given back; told. -/
import Derived.Test.YtebhknagnkcldaaDoorPo7
namespace Go.Proofs.YtebhknagnkcldaaDoor
open Go Go.Ev Go.RowKit
open Go.Proofs

/-- n comes ahead of one of these. -/
def ahead (n : Nat) (l : List Nat) : Bool := l.any fun x => decide (n < x)
theorem ins_ahead {n x : Nat} : ∀ {l : List Nat}, ahead n l = true → ins n (l ++ [x]) = ins n l ++ [x]
  | [], h => by simp [ahead] at h
  | y :: l, h => by
    rw [List.cons_append]
    unfold ins
    by_cases c : n < y
    · rw [if_pos c, if_pos c]; rfl
    · rw [if_neg c, if_neg c]
      have : ahead n l = true := by
        unfold ahead at h ⊢
        rw [List.any_cons, decide_eq_false c, Bool.false_or] at h
        exact h
      rw [ins_ahead this]; rfl
theorem ins_not {n : Nat} : ∀ {l : List Nat}, ahead n l = false → ins n l = l ++ [n]
  | [], _ => rfl
  | y :: l, h => by
    unfold ahead at h
    rw [List.any_cons, Bool.or_eq_false_iff, decide_eq_false_iff_not] at h
    unfold ins
    rw [if_neg h.1, ins_not (l := l) h.2]; rfl
theorem ins_mid {n x : Nat} {l : List Nat} (h : ahead n l = false) (hx : n < x) : ins n (l ++ [x]) = l ++ [n] ++ [x] := by
  induction l with
  | nil => simp [ins, hx]
  | cons y l ih =>
    unfold ahead at h
    rw [List.any_cons, Bool.or_eq_false_iff, decide_eq_false_iff_not] at h
    rw [List.cons_append]
    unfold ins
    rw [if_neg h.1, ih h.2]; rfl
theorem ahead_next {n x : Nat} {l : List Nat} : ahead n (l ++ [x]) = (ahead n l || decide (n < x)) := by simp [ahead]

/-- What turned is its own, and its row is its own or new. -/
def NewR (w : World) (b : Nat) (sv : Value) (lo hi : Nat) (U : List Nat) (w' : World) : Prop :=
  Chg (fun k => k = b) w w' ∧ ∃ sv', Rl w' b sv' lo hi U ∧ ∀ k, FootR b sv' k → FootR b sv k ∨ w.heap.size ≤ k

theorem newR_trans {w w1 w2 : World} {b lo hi : Nat} {sv s1 : Value} {U : List Nat} (c1 : Chg (fun k => k = b) w w1) (f1 : ∀ k, FootR b s1 k → FootR b sv k ∨ w.heap.size ≤ k) (h : NewR w1 b s1 lo hi U w2) : NewR w b sv lo hi U w2 := by
  obtain ⟨c2, s2, r2, f2⟩ := h
  refine ⟨c1.trans c2 fun _ _ h => h, s2, r2, fun k hk => ?_⟩
  rcases f2 k hk with h | h
  · exact f1 k h
  · have := c1.size; right; omega

theorem stored {w w2 : World} {b lo hi : Nat} {sv v : Value} {U U2 : List Nat} (h : Rl w b sv lo hi U) (hB : Bnd lo hi U2) (F : FreshN 3 .i64 w w2 v (toI U2)) :
    Xstore Tryd.prog 56 (.pointer (some ⟨b, 2, none⟩)) v w2 = some (undef, w2.setRow b #[.int .i64 (lo : Int), .int .i64 (hi : Int), v]) ∧ NewR w b sv lo hi U2 (w2.setRow b #[.int .i64 (lo : Int), .int .i64 (hi : Int), v]) := by
  have hlt := h.lt b (.inl rfl)
  have h2 := h.bel F.1
  have hv : ∀ q, v.ownBlock = some q → q ≠ b := fun q hq => by have := F.2.2 q hq; omega
  refine ⟨rl_set h2 F.2.1.slice, F.1.thenChg (setRow_chg _ _), v, ⟨hB, setRow_heap w2 b _ _ 58 _ h2.cells, F.2.1.chg (setRow_chg _ _) hv, hv⟩, fun k hk => ?_⟩
  rcases hk with hk | hk
  · exact .inl (.inl hk)
  · exact .inr (F.2.2 k hk)

theorem k37 {w : World} {b lo hi n : Nat} {sv : Value} {U : List Nat} (h : Rl w b sv lo hi U) (hn : okN lo hi U n = true) : Brings (Xcall Tryd.prog (Value.func (Fn.func 37) #[] #[]) #[.pointer (some ⟨b, 0, none⟩), .int .i64 (n : Int)] w) (fun r => NewR w b sv lo hi (ins n U) r.2) := by
  refine e37 ?_
  unfold s37
  have hl := h.small
  refine Brings.loop (fun m xs w' => ∃ (i : Nat) (v : Value) (l : List Nat), xs = [.pointer (some ⟨b, 0, none⟩), .int .i64 (n : Int), v, .bool (ahead n (U.take i)), .int .i64 (i : Int)] ∧ i ≤ U.length ∧ m = U.length - i ∧ FreshN 3 .i64 w w' v (toI l) ∧ l = (if ahead n (U.take i) = true then ins n (U.take i) else U.take i)) ?_ U.length _ _
    ⟨0, _, [], by simp [ahead], by omega, by omega, FreshN.start w, by simp [ahead]⟩
  rintro m xs w' ⟨i, v, l, rfl, hi', hm, F, hle⟩
  have h' := h.bel F.1
  have hlen : l.length ≤ 65537 := by
    have h1 : (ins n (U.take i)).length ≤ i + 1 := by
      have : ∀ q : List Nat, (ins n q).length = q.length + 1 := by
        intro q
        induction q with
        | nil => rfl
        | cons y q ih => unfold ins; split <;> simp [ih]
      rw [this, List.length_take]
      omega
    rw [hle]
    split
    · omega
    · rw [List.length_take]; omega
  have hlt' : (toI l).length ≤ 900000 := by rw [toI_len]; omega
  simp only [s37B0, go_sem, fa58x2, h'.l_, h'.len]
  refine .cond (fun hlt => ?_) (fun hlt => ?_)
  · have hlt : i < U.length := by
      have : (i : Int) < U.length := by simpa using hlt
      omega
    obtain ⟨u, a, hu, hix, hld⟩ := h'.get hlt
    have wr : IntKind.i64.wrap ((i : Int) + 1) = ((i + 1 : Nat) : Int) := by rw [wrap_i64 (by omega) (by omega)]; rfl
    have next : ∀ {w2 : World} {v2 : Value} {l2 : List Nat} {p : Bool}, FreshN 3 .i64 w w2 v2 (toI l2) → (toI l2).length ≤ 900000 → p = ahead n (U.take (i + 1)) → l2 ++ [u] = (if ahead n (U.take (i + 1)) = true then ins n (U.take (i + 1)) else U.take (i + 1)) →
        Brings (s37M1 (.pointer (some ⟨b, 0, none⟩)) (.int .i64 (n : Int)) v2 (.bool p) (.int .i64 (i : Int)) w2) fun r => (r.1 = .normal ∧ ∃ m', m' < m ∧ ∃ (i : Nat) (v : Value) (l : List Nat), r.2.1 = [.pointer (some ⟨b, 0, none⟩), .int .i64 (n : Int), v, .bool (ahead n (U.take i)), .int .i64 (i : Int)] ∧ i ≤ U.length ∧ m' = U.length - i ∧ FreshN 3 .i64 w r.2.2 v (toI l) ∧ l = (if ahead n (U.take i) = true then ins n (U.take i) else U.take i)) ∨ (r.1 ≠ .normal ∧ Brings (s37R0 r.1 r.2.1 r.2.2) fun r => NewR w b sv lo hi (ins n U) r.2) := by
      intro w2 v2 l2 p F2 hl2 hp he
      unfold s37M1
      have h2 := h.bel F2.1
      obtain ⟨u2, a2, hu2, hix2, hld2⟩ := h2.get hlt
      rw [hu] at hu2
      injection hu2 with hu2
      subst hu2
      obtain ⟨s1, w3, e3, v3, w4, e4, F4, _⟩ := F2.push t56 (u : Int) hl2
      simp only [fa58x2, h2.l_, hix2, hld2, e3, e4, wr, go_sem]
      refine .ret (.inl ⟨rfl, U.length - (i + 1), by omega, i + 1, v3, l2 ++ [u], by rw [hp], by omega, rfl, ?_, he⟩)
      rw [toI_add]
      exact F4
    cases hp : ahead n (U.take i) with
    | true =>
      rw [hp] at hle
      simp only [Bool.not_true, go_sem]
      refine next F hlt' (by rw [take_next hu, ahead_next, hp]; rfl) ?_
      rw [take_next hu, ahead_next, hp, Bool.true_or, if_pos rfl, ins_ahead hp, hle, if_pos rfl]
    | false =>
      rw [hp, if_neg (by decide)] at hle
      simp only [Bool.not_false, go_sem, fa58x2, h'.l_, hix, hld]
      refine .cond (fun hc => ?_) (fun hc => ?_)
      · have hc : n < u := by
          have : (n : Int) < u := by simpa using hc
          omega
        obtain ⟨s1, w3, e3, v3, w4, e4, F4, _⟩ := F.push t56 (n : Int) hlt'
        simp only [e3, e4, go_sem]
        have F4 : FreshN 3 .i64 w w4 v3 (toI (l ++ [n])) := by rw [toI_add]; exact F4
        have ht : ahead n (U.take (i + 1)) = true := by rw [take_next hu, ahead_next, decide_eq_true hc, Bool.or_true]
        refine next F4 (by rw [toI_len, List.length_append]; simp; omega) ht.symm ?_
        rw [ht, if_pos rfl, take_next hu, ins_mid hp hc, hle]
      · have hc : ¬ n < u := by
          have : ¬ (n : Int) < u := by simpa using hc
          omega
        have ht : ahead n (U.take (i + 1)) = false := by rw [take_next hu, ahead_next, hp, decide_eq_false hc]; rfl
        refine next F hlt' ht.symm ?_
        rw [ht, if_neg (by decide), take_next hu, hle]
  · have : i = U.length := by
      have : ¬ (i : Int) < U.length := by simpa using hlt
      omega
    subst this
    rw [List.take_length] at hle ⊢
    refine .ret (.inr ⟨by simp, ?_⟩)
    have hB := h.bnd.ins hn
    cases hp : ahead n U with
    | true =>
      rw [hp, if_pos rfl] at hle
      subst hle
      obtain ⟨e5, N⟩ := stored h hB F
      simp only [s37R0, Bool.not_true, go_sem, fa58x2, e5]
      exact .ret N
    | false =>
      rw [hp, if_neg (by decide)] at hle
      subst hle
      obtain ⟨s1, w3, e3, v3, w4, e4, F4, _⟩ := F.push t56 (n : Int) hlt'
      have F4 : FreshN 3 .i64 w w4 v3 (toI (ins n l)) := by rw [ins_not hp, toI_add]; exact F4
      obtain ⟨e5, N⟩ := stored h hB F4
      simp only [s37R0, Bool.not_false, e3, e4, go_sem, fa58x2, e5]
      exact .ret N

/-- What a taking brings, of the document's. -/
def TookR (w : World) (b : Nat) (sv : Value) (lo hi : Nat) (t : (Nat × Int) × List Nat) (r : Value × World) : Prop := r.1 = .tuple #[.int .u16 (t.1.1 : Int), .int .i64 t.1.2] ∧ NewR w b sv lo hi t.2 r.2

theorem m30 {w : World} {b lo hi f wish : Nat} {sv : Value} {U : List Nat} (h : Rl w b sv lo hi U) (hf : f = takenN lo hi U wish 1) : Brings (s30M0 (.pointer (some ⟨b, 0, none⟩)) (.int .i64 (f : Int)) w) (TookR w b sv lo hi (takeN lo hi U wish 1)) := by
  unfold s30M0 takeN
  rw [← hf]
  simp only [go_sem]
  by_cases c : f = 0
  · have e1 : ((f : Int) == 0) = true := by rw [c]; rfl
    rw [if_pos c]
    simp only [e1, go_sem]
    exact .ret ⟨rfl, .of_bel (Bel.refl _) _, sv, h, fun k hk => .inl hk⟩
  · have e1 : ((f : Int) == 0) = false := by rw [beq_eq_false_iff_ne]; omega
    rw [if_neg c]
    simp only [e1, go_sem]
    have hfr : freeN lo hi U f 1 = true := by
      rcases taken_or (wish := wish) h.bnd (Nat.le_refl 1) with e | e
      · omega
      · rw [hf]; exact e.2.1
    have hok : okN lo hi U f = true := by
      rw [← cond1]; unfold condN; rw [hfr, decide_eq_true (Nat.mod_one f)]; rfl
    have hlt : f < 65536 := by
      have := free_at hfr (show 0 < 1 by omega)
      have := h.bnd.hi1
      omega
    refine (k37 h hok).bind ?_
    rintro ⟨_, w2⟩ N
    have cv : Qconv Tryd.prog 3 22 (.int .i64 (f : Int)) = some (.int .u16 (f : Int)) := by
      rw [Qconv_int (k := .u16) (by kernel_rfl), wrap_u rfl (show f < 2 ^ IntKind.u16.bits from hlt)]
    simp only [cv, go_sem]
    exact .ret ⟨rfl, N⟩
theorem k30 {w : World} {b lo hi n : Nat} {sv : Value} {U : List Nat} (h : Rl w b sv lo hi U) (hn : n < 65536) : Brings (Xcall Tryd.prog (Value.func (Fn.func 30) #[] #[]) #[.pointer (some ⟨b, 0, none⟩), .int .u16 (n : Int)] w) (TookR w b sv lo hi (takeN lo hi U n 1)) := by
  refine e30 ?_
  unfold s30
  have cv : Qconv Tryd.prog 22 3 (.int .u16 (n : Int)) = some (.int .i64 (n : Int)) := by rw [Qconv_int (k := .i64) (by kernel_rfl), wrap_i64 (by omega) (by omega)]
  simp only [cv, go_sem, Qb_eqlP (P := Tryd.prog) (t := 25) (e := 58) ptr25, Option.isNone_some]
  refine (k35 h (by omega)).bind ?_
  rintro _ rfl
  cases c : okN lo hi U n with
  | true =>
    simp only [Bool.not_true, go_sem]
    exact m30 h (by unfold takenN; rw [cond1, c, if_pos rfl])
  | false =>
    simp only [Bool.not_false, go_sem]
    refine (k36 (two := false) h).bind ?_
    rintro _ rfl
    exact m30 h (by unfold takenN; rw [cond1, c]; rfl)

theorem m31 {w : World} {b lo hi f wish : Nat} {sv : Value} {U : List Nat} (h : Rl w b sv lo hi U) (hf : f = takenN lo hi U wish 2) : Brings (s31M0 (.pointer (some ⟨b, 0, none⟩)) (.int .i64 (f : Int)) w) (TookR w b sv lo hi (takeN lo hi U wish 2)) := by
  unfold s31M0 takeN
  rw [← hf]
  simp only [go_sem]
  by_cases c : f = 0
  · have e1 : ((f : Int) == 0) = true := by rw [c]; rfl
    rw [if_pos c]
    simp only [e1, go_sem]
    exact .ret ⟨rfl, .of_bel (Bel.refl _) _, sv, h, fun k hk => .inl hk⟩
  · have e1 : ((f : Int) == 0) = false := by rw [beq_eq_false_iff_ne]; omega
    rw [if_neg c]
    simp only [e1, go_sem]
    have hfr : freeN lo hi U f 2 = true := by
      rcases taken_or (wish := wish) h.bnd (show 1 ≤ 2 by omega) with e | e
      · omega
      · rw [hf]; exact e.2.1
    have f0 := free_at hfr (show 0 < 2 by omega)
    have f1 := free_at hfr (show 1 < 2 by omega)
    have hh := h.bnd.hi1
    have ok0 : okN lo hi U f = true := by
      unfold okN
      simp only [Bool.and_eq_true, decide_eq_true_eq]
      exact ⟨⟨f0.1, f0.2.1⟩, f0.2.2⟩
    have ok1 : okN lo hi (ins f U) (f + 1) = true := by
      unfold okN
      simp only [Bool.and_eq_true, decide_eq_true_eq, mem_ins, not_or]
      exact ⟨⟨f1.1, f1.2.1⟩, by omega, f1.2.2⟩
    refine (k37 h ok0).bind ?_
    rintro ⟨_, w2⟩ ⟨c2, s2, r2, g2⟩
    have wr : IntKind.i64.wrap ((f : Int) + 1) = ((f + 1 : Nat) : Int) := by rw [wrap_i64 (by omega) (by omega)]; rfl
    simp only at c2 r2
    simp only [wr, go_sem]
    refine (k37 r2 ok1).bind ?_
    rintro ⟨_, w3⟩ N
    have cv : Qconv Tryd.prog 3 22 (.int .i64 (f : Int)) = some (.int .u16 (f : Int)) := by
      rw [Qconv_int (k := .u16) (by kernel_rfl), wrap_u rfl (show f < 2 ^ IntKind.u16.bits by show f < 65536; omega)]
    simp only [cv, go_sem]
    exact .ret ⟨rfl, newR_trans c2 g2 N⟩
theorem k31 {w : World} {b lo hi n : Nat} {sv : Value} {U : List Nat} (h : Rl w b sv lo hi U) (hn : n < 65536) : Brings (Xcall Tryd.prog (Value.func (Fn.func 31) #[] #[]) #[.pointer (some ⟨b, 0, none⟩), .int .u16 (n : Int)] w) (TookR w b sv lo hi (takeN lo hi U n 2)) := by
  refine e31 ?_
  unfold s31
  have cv : Qconv Tryd.prog 22 3 (.int .u16 (n : Int)) = some (.int .i64 (n : Int)) := by rw [Qconv_int (k := .i64) (by kernel_rfl), wrap_i64 (by omega) (by omega)]
  have d1 : (n : Int).tmod 2 = ((n % 2 : Nat) : Int) := by rw [Int.tmod_eq_emod_of_nonneg (by omega)]; rfl
  have n2 : (2 : Int) ≠ 0 := by decide
  have wr : IntKind.i64.wrap ((n : Int) + 1) = ((n + 1 : Nat) : Int) := by rw [wrap_i64 (by omega) (by omega)]; rfl
  have other : condN lo hi U 2 n = false → Brings ((Xcall Tryd.prog (Value.func (Fn.func 36) #[] #[]) #[.pointer (some ⟨b, 0, none⟩), .bool true] w).bind fun r => s31M0 (.pointer (some ⟨b, 0, none⟩)) r.1 r.2) (TookR w b sv lo hi (takeN lo hi U n 2)) := fun hc => by
    refine (k36 (two := true) h).bind ?_
    rintro _ rfl
    exact m31 h (by unfold takenN; rw [hc]; rfl)
  rw [cond2] at other
  simp only [cv, go_sem, Qb_eqlP (P := Tryd.prog) (t := 25) (e := 58) ptr25, Option.isNone_some, Qb_remP n2, d1]
  by_cases c : n % 2 = 0
  · have e1 : (((n % 2 : Nat) : Int) != 0) = false := by rw [c]; rfl
    simp only [e1, go_sem]
    refine (k35 h (by omega)).bind ?_
    rintro _ rfl
    cases c2 : okN lo hi U n with
    | false =>
      simp only [Bool.not_false, go_sem]
      exact other (by rw [c2]; simp)
    | true =>
      simp only [Bool.not_true, wr, go_sem]
      refine (k35 h (by omega)).bind ?_
      rintro _ rfl
      cases c3 : okN lo hi U (n + 1) with
      | false =>
        simp only [Bool.not_false, go_sem]
        exact other (by rw [c3]; simp)
      | true =>
        simp only [Bool.not_true, go_sem]
        exact m31 h (by unfold takenN; rw [cond2, c2, c3, decide_eq_true c]; rfl)
  · have e1 : (((n % 2 : Nat) : Int) != 0) = true := by rw [bne_iff_ne]; omega
    simp only [e1, go_sem]
    exact other (by rw [decide_eq_false c]; rfl)

/-! ## Given back -/

theorem k32 {w : World} {b lo hi n : Nat} {sv : Value} {U : List Nat} (h : Rl w b sv lo hi U) (hn : n < 65536) : Brings (Xcall Tryd.prog (Value.func (Fn.func 32) #[] #[]) #[.pointer (some ⟨b, 0, none⟩), .int .u16 (n : Int)] w) (fun r => r.1 = .int .i64 (giveN U n).1 ∧ NewR w b sv lo hi (giveN U n).2 r.2) := by
  refine e32 ?_
  unfold s32 giveN
  simp only [go_sem, Qb_eqlP (P := Tryd.prog) (t := 25) (e := 58) ptr25, Option.isNone_some]
  refine (k27 h hn).bind ?_
  rintro _ rfl
  by_cases c : n ∈ U
  · simp only [c, decide_true, Bool.not_true, if_true, go_sem]
    have hl := h.small
    refine Brings.loop (fun m xs w' => ∃ (i : Nat) (v : Value), xs = [.pointer (some ⟨b, 0, none⟩), .int .u16 (n : Int), v, .int .i64 (i : Int)] ∧ i ≤ U.length ∧ m = U.length - i ∧ FreshN 3 .i64 w w' v (toI ((U.take i).filter fun k => decide (k ≠ n)))) ?_ U.length _ _
      ⟨0, _, rfl, by omega, by omega, FreshN.start w⟩
    rintro m xs w' ⟨i, v, rfl, hi', hm, F⟩
    have h' := h.bel F.1
    simp only [s32B0, go_sem, fa58x2, h'.l_, h'.len]
    refine .cond (fun hlt => ?_) (fun hlt => ?_)
    · have hlt : i < U.length := by
        have : (i : Int) < U.length := by simpa using hlt
        omega
      obtain ⟨u, a, hu, hix, hld⟩ := h'.get hlt
      have cv : Qconv Tryd.prog 22 3 (.int .u16 (n : Int)) = some (.int .i64 (n : Int)) := by rw [Qconv_int (k := .i64) (by kernel_rfl), wrap_i64 (by omega) (by omega)]
      have wr : IntKind.i64.wrap ((i : Int) + 1) = ((i + 1 : Nat) : Int) := by rw [wrap_i64 (by omega) (by omega)]; rfl
      simp only [fa58x2, h'.l_, hix, hld, cv, go_sem]
      refine .cond (fun he => ?_) (fun he => ?_)
      · have hne : u ≠ n := by
          have : ¬ (u : Int) = n := by simpa using he
          omega
        have hfl : (toI ((U.take i).filter fun k => decide (k ≠ n))).length ≤ 900000 := by
          rw [toI_len]
          have := List.length_filter_le (fun k => decide (k ≠ n)) (U.take i)
          rw [List.length_take] at this
          omega
        obtain ⟨s1, w3, e3, v3, w4, e4, F4, _⟩ := F.push t56 (u : Int) hfl
        simp only [fa58x2, h'.l_, hix, hld, e3, e4, wr, go_sem]
        refine .ret (.inl ⟨rfl, U.length - (i + 1), by omega, i + 1, v3, rfl, by omega, rfl, ?_⟩)
        rw [take_next hu, List.filter_append, show [u].filter (fun k => decide (k ≠ n)) = [u] by simp [hne], toI_add]
        exact F4
      · have he : u = n := by
          have : (u : Int) = n := by simpa using he
          omega
        rw [wr]
        refine .ret (.inl ⟨rfl, U.length - (i + 1), by omega, i + 1, v, rfl, by omega, rfl, ?_⟩)
        rw [take_next hu, List.filter_append, show [u].filter (fun k => decide (k ≠ n)) = [] by simp [he], List.append_nil]
        exact F
    · have : i = U.length := by
        have : ¬ (i : Int) < U.length := by simpa using hlt
        omega
      subst this
      rw [List.take_length] at F
      obtain ⟨e5, N⟩ := stored h (h.bnd.filter _) F
      refine .ret (.inr ⟨by simp, ?_⟩)
      simp only [s32R0, go_sem, fa58x2, e5]
      exact .ret ⟨rfl, N⟩
  · simp only [c, decide_false, Bool.not_false, if_false, go_sem]
    exact .ret ⟨rfl, .of_bel (Bel.refl _) _, sv, h, fun k hk => .inl hk⟩

/-! ## Told -/

theorem k25 {w : World} {b lo hi : Nat} {sv : Value} {U : List Nat} (h : Rl w b sv lo hi U) : Brings (Xcall Tryd.prog (Value.func (Fn.func 25) #[] #[]) #[.pointer (some ⟨b, 0, none⟩)] w) (fun r => FreshN 22 .u16 w r.2 r.1 (toI U)) := by
  refine e25 ?_
  unfold s25
  have hl := h.small
  refine Brings.loop (fun m xs w' => ∃ (i : Nat) (v : Value), xs = [.pointer (some ⟨b, 0, none⟩), v, .int .i64 (i : Int)] ∧ i ≤ U.length ∧ m = U.length - i ∧ FreshN 22 .u16 w w' v (toI (U.take i))) ?_ U.length _ _
    ⟨0, _, rfl, by omega, by omega, FreshN.start w⟩
  rintro m xs w' ⟨i, v, rfl, hi', hm, F⟩
  have h' := h.bel F.1
  simp only [s25B0, go_sem, Qb_neqP (P := Tryd.prog) (t := 25) (e := 58) ptr25, Option.isSome_some, fa58x2, h'.l_, h'.len]
  refine .cond (fun hlt => ?_) (fun hlt => ?_)
  · have hlt : i < U.length := by
      have : (i : Int) < U.length := by simpa using hlt
      omega
    obtain ⟨u, a, hu, hix, hld⟩ := h'.get hlt
    have u16 := h.lt16 (List.mem_of_getElem? hu)
    have cv : Qconv Tryd.prog 3 22 (.int .i64 (u : Int)) = some (.int .u16 (u : Int)) := by
      rw [Qconv_int (k := .u16) (by kernel_rfl), wrap_u rfl (show u < 2 ^ IntKind.u16.bits from u16)]
    have wr : IntKind.i64.wrap ((i : Int) + 1) = ((i + 1 : Nat) : Int) := by rw [wrap_i64 (by omega) (by omega)]; rfl
    obtain ⟨s1, w3, e3, v3, w4, e4, F4, _⟩ := F.push t33 (u : Int) (by rw [toI_len, List.length_take]; omega)
    simp only [fa58x2, h'.l_, hix, hld, cv, e3, e4, wr, go_sem]
    refine .ret (.inl ⟨rfl, U.length - (i + 1), by omega, i + 1, v3, rfl, by omega, rfl, ?_⟩)
    rw [take_next hu, toI_add]
    exact F4
  · have : i = U.length := by
      have : ¬ (i : Int) < U.length := by simpa using hlt
      omega
    subst this
    rw [List.take_length] at F
    exact .ret (.inr ⟨by simp, .ret F⟩)

theorem k26 {w : World} {b lo hi : Nat} {sv : Value} {U : List Nat} (h : Rl w b sv lo hi U) : Brings (Xcall Tryd.prog (Value.func (Fn.func 26) #[] #[]) #[.pointer (some ⟨b, 0, none⟩)] w) (fun r => r.1 = .int .i64 ((hi : Int) - lo + 1 - U.length) ∧ Bel w r.2) := by
  refine e26 ?_
  unfold s26
  have bd : Bel w w.drew := (Bel.refl _).drew
  have h2 := h.bel bd
  have hl := h.small
  have := h.bnd.hi1
  have := h.bnd.le
  simp only [go_sem, Qb_eqlP (P := Tryd.prog) (t := 25) (e := 58) ptr25, Option.isNone_some, fa58x0, fa58x1, fa58x2, h2.lo_, h2.hi_, h2.l_, h2.len]
  rw [wrap_i64 (n := (hi : Int) - lo) (by omega) (by omega), wrap_i64 (n := (hi : Int) - lo + 1) (by omega) (by omega), wrap_i64 (n := (hi : Int) - lo + 1 - U.length) (by omega) (by omega)]
  exact .ret ⟨rfl, bd⟩


end Go.Proofs.YtebhknagnkcldaaDoor
