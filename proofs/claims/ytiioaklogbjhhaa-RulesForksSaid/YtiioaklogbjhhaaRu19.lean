/- Law: as many rules as the limit. -/
import Derived.Test.YtiioaklogbjhhaaRu18
namespace Go.Proofs.Ytiioaklogbjhhaa
open Go Go.Ev Go.RowKit
open Go.Proofs

def ruleI (i : Nat) : Rule := ⟨1, 0, i, 32, 9, 0, 0, 0⟩
def someI (n : Nat) : List Rule := (List.range n).map ruleI
theorem someI_len (n : Nat) : (someI n).length = n := by simp [someI]
theorem someI_next (n : Nat) : someI (n + 1) = someI n ++ [ruleI n] := by simp [someI, List.range_succ]
theorem right_i (i : Nat) : rightM (ruleI i) = true := by simp [rightM, ruleI, upN, Nat.mod_one]
theorem ok_i {i : Nat} (h : i < 60) : (ruleI i).ok := by
  have : ∀ j : Fin 60, (ruleI j.val).ok := by unfold Rule.ok ruleI; decide +kernel
  exact this ⟨i, h⟩
theorem add_i (i : Nat) : addM (someI (min i 32)) (ruleI i) = (if i < 32 then 0 else 9, someI (min (i + 1) 32)) := by
  have hn : ruleI i ∉ someI (min i 32) := by
    intro h
    obtain ⟨j, hj, e⟩ := List.mem_map.1 h
    have hj := List.mem_range.1 hj
    unfold ruleI at e
    injection e with _ _ e
    omega
  unfold addM
  rw [right_i, if_neg (by decide), if_neg hn, someI_len]
  by_cases h : i < 32
  · rw [if_neg (by omega), if_pos h, show min i 32 = i by omega, show min (i + 1) 32 = i + 1 by omega, someI_next]
  · rw [if_pos (by omega), if_neg h, show min i 32 = 32 by omega, show min (i + 1) 32 = 32 by omega]

def ruleZ : Rule := ⟨1, 0, 0, 0, 5, 0, 0, 0⟩
theorem ok_z : ruleZ.ok := by unfold Rule.ok ruleZ; decide +kernel
theorem add_z {n j : Nat} (h : j < n) (hn : n ≤ 32) : addM ((someI n).eraseIdx j) ruleZ = (0, (someI n).eraseIdx j ++ [ruleZ]) := by
  have hz : ruleZ ∉ (someI n).eraseIdx j := fun h => by
    obtain ⟨i, _, e⟩ := List.mem_map.1 (mem_erase h)
    unfold ruleI ruleZ at e
    injection e with _ _ _ e
    cases e
  have hr : rightM ruleZ = true := by decide +kernel
  unfold addM
  rw [hr, if_neg (by decide), if_neg hz, List.length_eraseIdx_of_lt (by rw [someI_len]; exact h), someI_len, if_neg (by omega)]

theorem build_i (i : Int) (w : World) : Qbuild Try.prog 26 #[(0, .int .i64 1), (2, .int .u32 i), (3, .int .i64 32), (4, .int .u32 9)] w = some (.agg #[.int .i64 1, .int .u8 0, .int .u32 i, .int .i64 32, .int .u32 9, .int .u16 0, .int .u32 0, .int .u16 0]) := by kernel_rfl
theorem build_z (w : World) : Qbuild Try.prog 26 #[(0, .int .i64 1), (3, .int .i64 0), (4, .int .u32 5)] w = some ruleZ.v := by kernel_rfl

theorem conv53 {n : Nat} (h : n < 256) : Qconv Try.prog 5 3 (.int .u8 n) = some (.int .i64 n) := by
  rw [Qconv_int (k := .i64) (by kernel_rfl), wrap_i64 (by omega) (by omega)]
theorem conv3u {n : Nat} (h : n < 2 ^ 32) : Qconv Try.prog 3 23 (.int .i64 n) = some (.int .u32 n) := by
  rw [Qconv_int (k := .u32) (by kernel_rfl), wrap_u rfl h]

/-- What is said behind the adding. -/
theorem l6M {w : World} {a : Nat} {sl : Value} {n m : Nat} (h : Obj 60 w a sl (someI n)) (hn : n ≤ 32) (hm : m < 256) : Brings (s6M1 (.int .u8 m) (.pointer (some ⟨a, 0, none⟩)) (.int .i64 n) w) (fun r => r.1 = .bool true ∧ Chg (Foot a sl) w r.2) := by
  unfold s6M1
  refine (k16 h).bind ?_
  rintro ⟨v1, w1⟩ ⟨b1, o1, f1⟩
  simp only at b1 o1 f1 ⊢
  have V1 := View.of_owns o1 (Rule.lens _)
  simp only [V1.len und33, someI_len, bne_self_eq_false, go_sem]
  refine .cond (fun h0 => ?_) (fun h0 => ?_)
  · refine k14.bind ?_
    rintro ⟨_, w2⟩ ⟨e1, b2⟩
    simp only at e1 b2
    subst e1
    simp only [go_sem, V1.len und33, someI_len, beq_self_eq_true]
    exact .ret ⟨rfl, .of_bel (b1.trans b2) _⟩
  have hpos : 0 < n := by
    rcases Nat.eq_zero_or_pos n with e | e
    · subst e; simp at h0
    · exact e
  rw [conv53 hm]
  simp only [go_sem]
  rw [Qb_remP (by omega), show (m : Int).tmod n = ((m % n : Nat) : Int) from rfl]
  simp only [go_sem]
  have hi : m % n < n := Nat.mod_lt _ hpos
  generalize m % n = i at hi
  refine (k20 (i := (i : Int)) (h.bel b1)).bind ?_
  have hd : dropM (someI n) i = (0, (someI n).eraseIdx i) := by
    unfold dropM
    rw [if_neg (by rw [someI_len]; omega)]
    rfl
  rw [hd]
  rintro ⟨_, w2⟩ ⟨e1, c2, sl2, o2, k2⟩
  simp only at e1 c2 o2
  subst e1
  simp only [go_sem]
  have na : ∀ k, v1.ownBlock = some k → ¬ Foot a sl k := fun k hk hf => by
    have := f1 k hk; have := h.lt k hf; omega
  have V2 := V1.chg c2 na
  refine (k16 o2).bind ?_
  rintro ⟨v3, w3⟩ ⟨b3, o3, f3⟩
  simp only at b3 o3 f3 ⊢
  have V3 := View.of_owns o3 (Rule.lens _)
  have bd : Bel w3 w3.drew := (Bel.refl _).drew
  generalize w3.drew = w4 at bd
  refine k14.bind ?_
  rintro ⟨_, w5⟩ ⟨e1, b5⟩
  simp only at e1 b5
  subst e1
  have b45 := bd.trans b5
  have elen : ((someI n).eraseIdx i).length = n - 1 := by rw [List.length_eraseIdx_of_lt (by rw [someI_len]; exact hi), someI_len]
  obtain ⟨ti, hti, hts⟩ := inf26
  have U3 := V3.bel b45
  have U1 := (V2.bel b3).bel b45
  simp only [go_sem, U3.len und33, elen, beq_self_eq_true]
  rw [wrap_i64 (by omega) (by omega)]
  have : ((n - 1 : Nat) : Int) == (n : Int) - 1 := by rw [beq_iff_eq]; omega
  simp only [this, go_sem]
  obtain ⟨p1, q1, P1, -⟩ := U3.cutHi und33 hti hts (n := i) (by omega) (by omega) w5
  obtain ⟨p2, q2, P2, -⟩ := U1.cutHi und33 hti hts (n := i) (by omega) (by rw [someI_len]; omega) w5
  simp only [q1, q2, go_sem]
  refine (k21 P1 P2).bind ?_
  have e12 : ((someI n).eraseIdx i).take (i : Int).toNat = (someI n).take (i : Int).toNat := by
    rw [Int.toNat_natCast, List.eraseIdx_eq_take_drop_succ, List.take_append_of_le_length (by rw [List.length_take, someI_len]; omega), List.take_take, Nat.min_self]
  rw [e12]
  rintro ⟨_, w6⟩ ⟨e1, b6⟩
  simp only [decide_true] at e1 b6
  subst e1
  have X3 := U3.bel b6
  have X1 := U1.bel b6
  obtain ⟨p3, q3, P3, -⟩ := X3.cutLo und33 hti hts (n := i) (by omega) (by omega) w6
  obtain ⟨p4, q4, P4, -⟩ := X1.cutLo und33 hti hts (n := ((i + 1 : Nat) : Int)) (by omega) (by rw [someI_len]; omega) w6
  simp only [q3, go_sem]
  rw [wrap_i64 (by omega) (by omega), show (i : Int) + 1 = ((i + 1 : Nat) : Int) by omega]
  simp only [q4, go_sem]
  refine (k21 P3 P4).bind ?_
  have e34 : ((someI n).eraseIdx i).drop (i : Int).toNat = (someI n).drop ((i + 1 : Nat) : Int).toNat := by
    rw [Int.toNat_natCast, Int.toNat_natCast, List.eraseIdx_eq_take_drop_succ, List.drop_append, List.drop_of_length_le (by rw [List.length_take]; omega), List.nil_append, List.length_take, someI_len, show i - min i n = 0 by omega, List.drop_zero]
  rw [e34]
  rintro ⟨_, w7⟩ ⟨e1, b7⟩
  simp only [decide_true] at e1 b7
  subst e1
  simp only [build_z, go_sem]
  have b37 := ((b3.trans b45).trans b6).trans b7
  refine (k12 (o2.bel b37) ok_z).bind ?_
  rw [add_z hi hn]
  rintro ⟨_, w8⟩ ⟨e1, c8, sl8, o8, k8⟩
  simp only at e1 c8
  subst e1
  simp only [beq_self_eq_true, eq_self, go_sem]
  refine .ret ⟨rfl, ((b1.thenChg c2).thenBel b37).trans c8 fun k hk hf => ?_⟩
  rcases Did.foot (tt := 60) (a := a) k2 k hf with h1 | h1
  · exact h1
  · have := b1.size; omega

theorem l6 {w : World} {n m : Nat} (hn : n < 256) (hm : m < 256) : Brings (s6 (.int .u8 n) (.int .u8 m) w) (Yes w) := by
  unfold s6
  refine k11.bind ?_
  rintro ⟨_, w1⟩ ⟨a, sa, h1, b1, oa, fa⟩
  simp only at h1 b1 oa
  subst h1
  simp only
  rw [conv53 hn]
  simp only [go_sem]
  rw [Qb_remP (by omega), show (n : Int).tmod 60 = ((n % 60 : Nat) : Int) from rfl]
  simp only [go_sem]
  have hk : n % 60 < 60 := Nat.mod_lt _ (by decide)
  generalize n % 60 = k at hk
  refine Brings.loop (fun q xs w' => ∃ (i : Nat) (sl : Value), xs = [.int .u8 m, .bool false, .pointer (some ⟨a, 0, none⟩), .int .i64 k, .int .i64 i] ∧ i ≤ k ∧ q = k - i ∧ Bel w w' ∧ Obj 60 w' a sl (someI (min i 32)) ∧ ∀ k, Foot a sl k → w.heap.size ≤ k) ?_ k _ _ ⟨0, sa, rfl, by omega, by omega, b1, oa, fa⟩
  rintro q xs w' ⟨i, sl, rfl, hi, hq, hb, ho, hf⟩
  simp only [s6B0, go_sem]
  refine .cond (fun hlt => ?_) (fun hlt => ?_)
  · have hlt : i < k := by
      have : (i : Int) < k := by simpa using hlt
      omega
    rw [conv3u (by omega)]
    simp only [build_i, go_sem]
    refine (k12 (x := ruleI i) ho (ok_i (by omega))).bind ?_
    rw [add_i]
    rintro ⟨_, w2⟩ hd
    obtain ⟨rfl, b2, sl2, o2, f2⟩ := did_new hb hd hf
    have e1 : ∀ c : Int, c = (if i < 32 then 0 else 9) → ((c == 0) != decide ((i : Int) < 32)) = false ∧ (c != 0 && c != 9) = false := fun c hc => by
      subst hc
      by_cases h : i < 32
      · rw [if_pos h, decide_eq_true (by omega)]; exact ⟨rfl, rfl⟩
      · rw [if_neg h, decide_eq_false (by omega)]; exact ⟨rfl, rfl⟩
    obtain ⟨e1, e2⟩ := e1 _ rfl
    simp only [go_sem, Qb_neqB (P := Try.prog) (t := 4) (by kernel_rfl), e1]
    have nx : Brings (some (Exit.normal, [Value.int .u8 m, .bool false, .pointer (some ⟨a, 0, none⟩), .int .i64 k, .int .i64 (IntKind.i64.wrap ((i : Int) + 1))], w2)) fun r => (r.1 = .normal ∧ ∃ m_1, m_1 < q ∧ ∃ (i : Nat) (sl : Value), r.2.1 = [.int .u8 m, .bool false, .pointer (some ⟨a, 0, none⟩), .int .i64 k, .int .i64 i] ∧ i ≤ k ∧ m_1 = k - i ∧ Bel w r.2.2 ∧ Obj 60 r.2.2 a sl (someI (min i 32)) ∧ ∀ k, Foot a sl k → w.heap.size ≤ k) ∨ (r.1 ≠ .normal ∧ Brings (s6R0 r.1 r.2.1 r.2.2) (Yes w)) :=
      .ret (.inl ⟨rfl, k - (i + 1), by omega, i + 1, sl2, by rw [wrap_i64 (by omega) (by omega)]; rfl, by omega, rfl, b2, o2, f2⟩)
    by_cases h : i < 32
    · simp only [h, if_true, bne_self_eq_false, go_sem] at nx ⊢
      exact nx
    · simp only [h, if_false, go_sem, show ((9 : Int) != 0) = true from rfl, show ((9 : Int) != 9) = false from rfl] at nx ⊢
      exact nx
  · have : i = k := by
      have : ¬ (i : Int) < k := by simpa using hlt
      omega
    subst this
    refine .ret (.inr ⟨by simp, ?_⟩)
    simp only [s6R0, go_sem]
    refine .cond (fun h => ?_) (fun h => ?_)
    · have h : 32 < i := by
        have : (32 : Int) < i := by simpa using h
        omega
      rw [show min i 32 = 32 by omega] at ho
      exact (l6M ho (by omega) hm).mono fun r h => ⟨h.1, (hb.thenChg h.2).bel fun k hk h => by have := hf k h; omega⟩
    · have h : ¬ 32 < i := by
        have : ¬ (32 : Int) < i := by simpa using h
        omega
      rw [show min i 32 = i by omega] at ho
      exact (l6M ho (by omega) hm).mono fun r h => ⟨h.1, (hb.thenChg h.2).bel fun k hk h => by have := hf k h; omega⟩

theorem law6 {n m : Int} {w : World} (h : (Lit.int .u8 n).wf = true) (h' : (Lit.int .u8 m).wf = true) : Calls Try.prog 6 #[.int .u8 n, .int .u8 m] w fun e w' => e = .returned (.bool true) ∧ Below w.heap.size w w' := by
  obtain ⟨a, rfl, ha⟩ := wf_u rfl h
  obtain ⟨b, rfl, hb⟩ := wf_u rfl h'
  exact law_of (l6 ha hb) fun _ => c6

end Go.Proofs.Ytiioaklogbjhhaa
