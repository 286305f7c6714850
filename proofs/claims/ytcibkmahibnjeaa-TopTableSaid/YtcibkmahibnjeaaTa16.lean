/- Laws of the table: forks, none, due. -/
import Derived.Test.YtcibkmahibnjeaaTa15
namespace Go.Proofs.Ytcibkmahibnjeaa
open Go Go.Ev Go.RowKit
open Go.Proofs

/-! ## Forks -/

theorem l8 {w : World} {n : Nat} {s t : Value} {ds es : List Deed} (hn : n < 256) (hv : View Deed.cs 8 w s ds) (hv2 : View Deed.cs 8 w t es) : Brings (s8 (.int .u8 (n : Int)) s t w) (Yes w) := by
  unfold s8
  refine (k11 hn hv).bind ?_
  rintro ⟨_, w1⟩ ⟨⟨a, rv, bv, b, sv, e1, b1, T, fa, fb⟩, hG⟩
  simp only at e1 b1 T
  subst e1
  have l8 : (limN n : Int) ≤ 8 := by unfold limN; omega
  generalize limN n = lim at *
  generalize deedsM (↑lim) (0, []) (ds.take 100) = st at T hG
  have hL : st.2.length ≤ 1000 := by have := hG.len; omega
  simp only [Qext_0, Qext_1, Qext_2, bind_some']
  refine k12.bind ?_
  rintro ⟨_, w2⟩ ⟨e2, b2⟩
  simp only at e2 b2
  subst e2
  simp only [bind_some', Qun_not, Bool.not_true, guardQ_ff, isB_f, gv_t, Bool.not_false, Qpick_f, condK_f]
  have T2 := T.bel b2
  refine (k22 T2.A hL).bind ?_
  rintro ⟨_, w3⟩ ⟨b3, c, rc, bc, e3, p3, fc⟩
  simp only at e3 b3 p3
  subst e3
  have T3 := T2.bel b3
  simp only
  refine (k23 T3.B hL).bind ?_
  rintro ⟨_, w4⟩ ⟨b4, d, td, e4, p4, fd⟩
  simp only at e4 b4 p4
  subst e4
  have T4 := T3.bel b4
  have B4 := ((b1.trans b2).trans b3).trans b4
  have F0 : Two w4 c rc bc d td lim st := ⟨p3.bel b4, p4, fun k hk hf => by have := p3.lt k hk; have := fd k hf; omega⟩
  have z2 := b2.size
  have z3 := b3.size
  have z1 := b1.size
  have z4 := b4.size
  have l2a := T2.A.lt
  have l2b := T2.B.lt
  have h63 := hv2.small
  simp only [maxLen] at h63
  obtain ⟨ti, ht, hts⟩ := inf44
  simp only
  refine Brings.loop (fun m xs w' => ∃ (i : Nat) (bq : List Value) (qv : Value), xs = [t, .bool false, .pointer (some ⟨a, 0, none⟩), .pointer (some ⟨b, 0, none⟩), .pointer (some ⟨c, 0, none⟩), .pointer (some ⟨d, 0, none⟩), .int .i64 i] ∧ i ≤ es.length ∧ i ≤ 40 ∧ m = 40 - i ∧ Bel w w' ∧ w2.heap.size ≤ w'.heap.size ∧ Two w' a rv bv b sv lim st ∧ Two w' c rc bq d qv lim (deedsM lim st (es.take i)) ∧ (∀ k, Foot c rc bq k → w2.heap.size ≤ k) ∧ ∀ k, FootR d qv k → w2.heap.size ≤ k) ?_ 40 _ _
    ⟨0, bc, td, rfl, by omega, by omega, by omega, B4, by omega, T4, by simpa [deedsM] using F0, fc, fun k hk => by have := fd k hk; omega⟩
  rintro m xs w' ⟨i, bq, qv, rfl, hi', hi60, hm', hb, hsz, TA, TB, hf1, hf2⟩
  have gi : Good lim (100 + i) (deedsM lim st (es.take i)) := by
    have := good_deeds (es.take i) 100 st hG
    rw [List.length_take] at this
    exact this.mono (by omega)
  simp only [s8B0, hv2.len und22, go_sem]
  have fin : Brings (s8R0 (.exit 0) [t, .bool false, .pointer (some ⟨a, 0, none⟩), .pointer (some ⟨b, 0, none⟩), .pointer (some ⟨c, 0, none⟩), .pointer (some ⟨d, 0, none⟩), .int .i64 i] w') (Yes w) := by
    unfold s8R0
    refine Brings.loop (fun m xs w'' => ∃ j : Nat, xs = [t, .bool false, .pointer (some ⟨a, 0, none⟩), .pointer (some ⟨b, 0, none⟩), .pointer (some ⟨c, 0, none⟩), .pointer (some ⟨d, 0, none⟩), .int .i64 j] ∧ j ≤ es.length ∧ j ≤ 40 ∧ m = 40 - j ∧ Bel w' w'') ?_ 40 _ _
      ⟨0, rfl, by omega, by omega, by omega, Bel.refl _⟩
    rintro m xs w'' ⟨j, rfl, hj, hj40, hm2, hb2⟩
    simp only [s8B1, hv2.len und22, go_sem]
    have out : Brings (s8R1 (.exit 2) [t, .bool false, .pointer (some ⟨a, 0, none⟩), .pointer (some ⟨b, 0, none⟩), .pointer (some ⟨c, 0, none⟩), .pointer (some ⟨d, 0, none⟩), .int .i64 j] w'') (Yes w) := by
      simp only [s8R1, build37z, go_sem]
      refine (k19 (k := Tup.zero) (now := 1099511627776) (TA.bel hb2) hG l8).bind ?_
      rintro ⟨_, w5⟩ ⟨e5, b5⟩
      exact .ret ⟨e5, (hb.trans hb2).trans b5⟩
    by_cases h1 : j < es.length
    · have e1 : decide ((j : Int) < es.length) = true := by rw [decide_eq_true_iff]; omega
      by_cases h2 : j < 40
      · have e2 : decide ((j : Int) < 40) = true := by rw [decide_eq_true_iff]; omega
        have bd : Bel w'' w''.drew := (Bel.refl _).drew
        have hbd := (hb.trans hb2).trans bd
        obtain ⟨x, g, o, hx, _, hix, hc⟩ := (hv2.bel hbd).get und22 ht hts (n := j) (by omega) (by omega)
        simp only [e1, e2, hix, fa44x1, fa44x3, Tup.all (Deed.in1 hc), Deed.f3 hc, go_sem]
        refine (k19 (TA.bel (hb2.trans bd)) hG l8).bind ?_
        rintro ⟨_, w5⟩ ⟨e5, b5⟩
        simp only at e5 b5
        subst e5
        have hc5 := hc.bel b5
        simp only [Bool.not_true, hix, fa44x1, fa44x3, Tup.all (Deed.in1 hc5), Deed.f3 hc5, go_sem]
        refine (k19 (TB.bel ((hb2.trans bd).trans b5)) gi l8).bind ?_
        rintro ⟨_, w6⟩ ⟨e6, b6⟩
        simp only at e6 b6
        subst e6
        simp only [Bool.not_true, go_sem]
        exact .ret (.inl ⟨rfl, 40 - (j + 1), by omega, j + 1, by rw [wrap_i64 (by omega) (by omega)]; rfl, by omega, by omega, rfl, ((hb2.trans bd).trans b5).trans b6⟩)
      · have e2 : decide ((j : Int) < 40) = false := by rw [decide_eq_false_iff_not]; omega
        simp only [e1, e2, go_sem]
        exact .ret (.inr ⟨by simp, out⟩)
    · have e1 : decide ((j : Int) < es.length) = false := by rw [decide_eq_false_iff_not]; omega
      simp only [e1, go_sem]
      exact .ret (.inr ⟨by simp, out⟩)
  by_cases h1 : i < es.length
  · have e1 : decide ((i : Int) < es.length) = true := by rw [decide_eq_true_iff]; omega
    by_cases h2 : i < 40
    · have e2 : decide ((i : Int) < 40) = true := by rw [decide_eq_true_iff]; omega
      simp only [e1, e2, go_sem]
      obtain ⟨x, g, o, hx, _, hix, hc⟩ := (hv2.bel hb).get und22 ht hts (n := i) (by omega) (by omega)
      simp only [Int.toNat_natCast] at hx
      simp only [hix, Deed.all hc, go_sem]
      refine (k24 (x := x) TB gi (by omega) (by omega)).bind ?_
      rintro ⟨_, w5⟩ ⟨e5, c5, bq', qv', T5, f5, g5⟩
      simp only at e5 c5 T5
      subst e5
      have sz := hb.size
      have up : ∀ k, (Foot c rc bq k ∨ FootR d qv k) → w2.heap.size ≤ k := fun k hk => by
        rcases hk with hk | hk
        · exact hf1 k hk
        · exact hf2 k hk
      simp only [go_sem, Bool.not_true]
      refine .ret (.inl ⟨rfl, 40 - (i + 1), by omega, i + 1, bq', qv', by rw [wrap_i64 (by omega) (by omega)]; rfl, by omega, by omega, rfl, ?_, ?_, ?_, ?_, ?_, ?_⟩)
      · exact (hb.thenChg c5).bel fun k hk h => by have := up k h; omega
      · exact Nat.le_trans hsz c5.size
      · refine TA.chg c5 (fun k hk h => ?_) fun k hk h => ?_
        · have := up k h; have := l2a k hk; omega
        · have := up k h; have := l2b k hk; omega
      · have : es.take (i + 1) = es.take i ++ [x] := by rw [List.take_add_one, hx]; rfl
        rw [this]
        unfold deedsM at T5 ⊢
        rw [List.foldl_append]
        exact T5
      · intro k hk
        rcases f5 k hk with h | h
        · exact hf1 k h
        · omega
      · intro k hk
        rcases g5 k hk with h | h
        · exact hf2 k h
        · omega
    · have e2 : decide ((i : Int) < 40) = false := by rw [decide_eq_false_iff_not]; omega
      simp only [e1, e2, go_sem]
      exact .ret (.inr ⟨by simp, fin⟩)
  · have e1 : decide ((i : Int) < es.length) = false := by rw [decide_eq_false_iff_not]; omega
    simp only [e1, go_sem]
    exact .ret (.inr ⟨by simp, fin⟩)

/-! ## None -/

theorem l9 {w : World} {x : Deed} {n : Int} : Brings (s9 x.v (.int .i64 n) w) (Yes w) := by
  unfold s9
  have A := x.new w
  have hb : Bel w (w.alloc (.cells x.cs.toArray 44)) := (Bel.refl w).alloc _
  rw [x.box]
  simp only [go_sem, fb44x1, Tup.all (Deed.in1 A)]
  generalize w.alloc (.cells x.cs.toArray 44) = w1 at A hb
  generalize w.heap.size = q at A
  refine k15n.bind ?_
  rintro ⟨_, w2⟩ ⟨e2, b2⟩
  simp only at e2 b2
  subst e2
  have A := A.bel b2
  have hb := hb.trans b2
  simp only [go_sem]
  refine k25n.bind ?_
  rintro ⟨_, w3⟩ ⟨e3, b3⟩
  simp only at e3 b3
  subst e3
  have A := A.bel b3
  have hb := hb.trans b3
  have B5 := local_bel w3 (.cells Tup.zero.cs.toArray 37) Tup.zero.cs.toArray
  have A5 := local_at w3 Tup.zero.cs Tup.zero.cs 37
  simp only [alloc37, put37, go_sem]
  have A := A.bel B5
  have hb := hb.trans B5
  generalize (w3.alloc (.cells Tup.zero.cs.toArray 37)).setRow w3.heap.size Tup.zero.cs.toArray = w5 at A5 A B5 hb
  generalize w3.heap.size = q5 at A5
  refine k12.bind ?_
  rintro ⟨_, w6⟩ ⟨e6, b6⟩
  simp only at e6 b6
  subst e6
  have A := A.bel b6
  have A5 := A5.bel b6
  have hb := hb.trans b6
  simp only [fb44x1, fb44x2, fb44x3, Tup.all (Deed.in1 A), Deed.b2 A, Deed.b3 A, go_sem]
  refine k17n.bind ?_
  rintro ⟨_, w7⟩ ⟨e7, b7⟩
  simp only at e7 b7
  subst e7
  have A := A.bel b7
  have A5 := A5.bel b7
  have hb := hb.trans b7
  simp only [show ((1 : Int) == 1) = true from rfl, fb44x1, fb44x3, Tup.all (Deed.in1 A), Deed.b3 A, go_sem]
  refine k20n.bind ?_
  rintro ⟨_, w8⟩ ⟨e8, b8⟩
  simp only at e8 b8
  subst e8
  have A := A.bel b8
  have A5 := A5.bel b8
  have hb := hb.trans b8
  simp only [show ((1 : Int) == 1) = true from rfl, fb44x1, Tup.all (Deed.in1 A), go_sem]
  refine k21n.bind ?_
  rintro ⟨_, w9⟩ ⟨e9, b9⟩
  simp only at e9 b9
  subst e9
  have A := A.bel b9
  have A5 := A5.bel b9
  have hb := hb.trans b9
  simp only [show ((1 : Int) == 1) = true from rfl, show ((0 : Int) == 0) = true from rfl, Bool.not_false, Tup.all A5, build37z, Tup.eql, decide_true, go_sem]
  refine k16n.bind ?_
  rintro _ rfl
  simp only [show ((0 : Int) == 0) = true from rfl, fb44x3, Deed.b3 A, go_sem]
  refine k13n.bind ?_
  rintro ⟨_, w10⟩ ⟨e10, b10⟩
  simp only at e10 b10
  subst e10
  have hb := hb.trans b10
  have q0 : Qlen Try.prog #[30] 3 #[.slice none 0 0] w10 = some (.int .i64 ((0 : Nat) : Int)) := Qlen_slice Ks.und30
  simp only [q0, show (((0 : Nat) : Int) == 0) = true from rfl, go_sem]
  refine k22n.bind ?_
  rintro _ rfl
  have pe : ∀ p : Option Addr, Qbin Try.prog .eql 25 (.pointer p) (.pointer none) = some (.bool p.isNone) := fun p => Qb_eqlP (e := 70) ptr25
  simp only [pe, Option.isNone_none, go_sem]
  refine k26.bind ?_
  have qb : ∀ x y : Bool, Qbin Try.prog .eql 4 (.bool x) (.bool y) = some (.bool (x == y)) := fun x y => Qb_eqlB (by kernel_rfl)
  rintro ⟨_, w11⟩ ⟨b11, ⟨hn, hp⟩ | ⟨hn, a, rv, bv, hp, _, _⟩⟩ <;> simp only at hp b11 <;> subst hp
  · by_cases c1 : n < 1
    · simp only [pe, Option.isNone_none, c1, decide_true, qb, beq_self_eq_true, go_sem]
      exact .ret ⟨rfl, hb.trans b11⟩
    · have c2 : 4096 < n := by omega
      simp only [pe, Option.isNone_none, c1, c2, decide_true, decide_false, qb, beq_self_eq_true, go_sem]
      exact .ret ⟨rfl, hb.trans b11⟩
  · have c1 : ¬ n < 1 := by omega
    have c2 : ¬ 4096 < n := by omega
    simp only [pe, Option.isNone_some, c1, c2, decide_false, qb, beq_self_eq_true, go_sem]
    exact .ret ⟨rfl, hb.trans b11⟩

/-! ## Due -/

theorem none_later {O : List Rw} {y : Rw} {a : Int} (h : Srt (y :: O)) (hy : ¬ y.till ≤ a) : O.filter (dueP a) = [] := by
  rw [List.filter_eq_nil_iff]
  intro x hx
  have := (List.pairwise_cons.1 h).1 x hx
  rw [lt_iff] at this
  simp only [dueP, decide_eq_true_eq]
  omega
/-- What is due by one time is ahead of what is due by a later one. -/
theorem due_split : ∀ {O : List Rw} {a b : Int}, Srt O → a ≤ b → O.filter (dueP b) = O.filter (dueP a) ++ O.filter (fun x => dueP b x && !dueP a x)
  | [], _, _, _, _ => rfl
  | y :: O, a, b, h, hab => by
    have h2 := (List.pairwise_cons.1 h).2
    by_cases c : y.till ≤ a
    · have d1 : dueP a y = true := by simpa [dueP] using c
      have d2 : dueP b y = true := by simp [dueP]; omega
      rw [List.filter_cons_of_pos d2, List.filter_cons_of_pos d1, List.filter_cons_of_neg (by rw [d1, d2]; decide), due_split h2 hab, List.cons_append]
    · have d1 : dueP a y = false := by simpa [dueP] using c
      have e := none_later h c
      have e2 : (y :: O).filter (dueP a) = [] := by rw [List.filter_cons_of_neg (by rw [d1]; decide), e]
      rw [e2, List.nil_append]
      refine List.filter_congr fun x hx => ?_
      have : dueP a x = false := by
        rcases List.mem_cons.1 hx with rfl | hx
        · exact d1
        · rw [List.filter_eq_nil_iff] at e
          simpa using e x hx
      rw [this]; simp

theorem get_of {L : List Rw} {x : Rw} (hA : L.Pairwise fun x y => x.key ≠ y.key) (hx : x ∈ L) (hn : keyM x.key = x.key) : getM L x.key = (x.value, x.till, true) := by
  unfold getM
  rw [hn]
  have : L.find? (isK x.key) = some x := by
    obtain ⟨i, hi, rfl⟩ := List.mem_iff_getElem.1 hx
    refine find_first (List.getElem?_eq_getElem hi) (by simp [isK]) fun y hy => ?_
    obtain ⟨j, hj, rfl⟩ := List.mem_take_iff_getElem.1 hy
    rw [List.pairwise_iff_getElem] at hA
    simpa [isK] using hA j i (by omega) hi (by omega)
  rw [this]

theorem m3 {w w1 : World} {a : Nat} {rv : Value} {bv : List Value} {lim seq : Int} {L : List Rw} {p q : Nat} (hb : Bel w w1) (T : Tb w1 a rv bv lim seq L) (hL : L.length ≤ 12) (hA : Apart seq L) (hN : ∀ x ∈ L, keyM x.key = x.key) (hT : ∀ x ∈ L, mayT x.till = true) (hpq : p ≤ q) (hq : q < 65536) :
    Brings (s3M0 (.bool false) (.pointer (some ⟨a, 0, none⟩)) (.int .i64 (p : Int)) (.int .i64 (q : Int)) w1) (Yes w) := by
  unfold s3M0
  refine (k13 (now := p) T hL hA).bind ?_
  rintro ⟨u, w2⟩ ⟨F1, F2, F3⟩
  simp only at F1 F2 F3
  have T2 := T.bel F1
  simp only
  refine (k13 (now := q) T2 hL hA).bind ?_
  rintro ⟨v, w3⟩ ⟨G1, G2, G3⟩
  simp only at G1 G2 G3
  have hsrt := ord_srt hA.seqs
  have sp := due_split (a := p) (b := q) hsrt (by omega)
  have lq := due_len hA.seqs (q : Int)
  generalize hDa : (ordM L).filter (dueP p) = Da at sp
  generalize hDr : (ordM L).filter (fun x => dueP q x && !dueP p x) = Dr at sp
  have eA : dueM L p = Da.map (·.key) := by unfold dueM; rw [hDa]
  have eB : dueM L q = (Da ++ Dr).map (·.key) := by unfold dueM; rw [sp]
  rw [eA] at F2
  rw [eB] at G2
  rw [sp] at lq
  have hab : Da.length ≤ (Da ++ Dr).length := by simp
  have VA := View.of_owns (later_bel F2 G1) (Tup.lens _)
  have VB := View.of_owns G2 (Tup.lens _)
  have la : (Da.map (·.key)).length = Da.length := List.length_map _
  have lb : ((Da ++ Dr).map (·.key)).length = (Da ++ Dr).length := List.length_map _
  have d1 : decide (((Da ++ Dr).length : Int) < (Da.length : Int)) = false := by rw [decide_eq_false_iff_not]; omega
  obtain ⟨ti, hti, hts⟩ := inf37
  obtain ⟨s', q1, V', n'⟩ := VB.cutHi Ks.und30 hti hts (n := (Da.length : Int)) (by omega) (by rw [lb]; omega) w3
  rw [Int.toNat_natCast] at V'
  have ht : ((Da ++ Dr).map (·.key)).take Da.length = Da.map (·.key) := by
    rw [List.map_append, List.take_append_of_le_length (by rw [la]; exact Nat.le_refl _), List.take_of_length_le (by rw [la]; exact Nat.le_refl _)]
  rw [ht] at V'
  simp only [VA.len Ks.und30, VB.len Ks.und30, la, lb, d1, q1, go_sem]
  refine (k14 VA V').bind ?_
  rintro ⟨_, w4⟩ ⟨e4, b4⟩
  simp only [decide_true] at e4 b4
  subst e4
  simp only [Bool.not_true, go_sem]
  have T4 := T2.bel (G1.trans b4)
  have B4 := ((hb.trans F1).trans G1).trans b4
  have VA4 := VA.bel b4
  have VB4 := VB.bel b4
  have hmem : ∀ x ∈ Da ++ Dr, x ∈ L := fun x hx => by
    rw [← sp] at hx
    exact (ord_mem hA.seqs x).1 (List.mem_filter.1 hx).1
  have hDq : ∀ x ∈ Da ++ Dr, x.till ≤ q := fun x hx => by
    rw [← sp] at hx
    simpa [dueP] using (List.mem_filter.1 hx).2
  have hDs : Srt (Da ++ Dr) := by rw [← sp]; exact hsrt.sublist List.filter_sublist
  have hDp : ∀ x ∈ Da, x.till ≤ p := fun x hx => by
    rw [← hDa] at hx
    simpa [dueP] using (List.mem_filter.1 hx).2
  have hDn : ∀ x ∈ Dr, ¬ x.till ≤ p := fun x hx => by
    rw [← hDr] at hx
    have := (List.mem_filter.1 hx).2
    simp [dueP] at this
    omega
  refine Brings.loop (fun m xs w' => ∃ (i : Nat) (last : Int), xs = [.bool false, .pointer (some ⟨a, 0, none⟩), .int .i64 (p : Int), .int .i64 (q : Int), u, v, .int .i64 last, .int .i64 (i : Int)] ∧ i ≤ (Da ++ Dr).length ∧ m = (Da ++ Dr).length - i ∧ Bel w4 w' ∧ ∀ (j : Nat) x, i ≤ j → (Da ++ Dr)[j]? = some x → last ≤ x.till) ?_ (Da ++ Dr).length _ _
    ⟨0, -1, rfl, by omega, by omega, Bel.refl _, fun j x _ hx => by
      have := hT x (hmem x (List.mem_of_getElem? hx))
      unfold mayT at this
      rw [Bool.and_eq_true, decide_eq_true_eq] at this
      omega⟩
  rintro m xs w' ⟨i, last, rfl, hi, hm, hb', hlast⟩
  have V5 := VB4.bel hb'
  simp only [s3B1, V5.len Ks.und30, lb, go_sem]
  refine .cond (fun hlt => ?_) (fun hlt => ?_)
  · have hlt : i < (Da ++ Dr).length := by
      have : (i : Int) < ((Da ++ Dr).length : Int) := by simpa using hlt
      omega
    obtain ⟨y, g, o, hy, _, hix, hc⟩ := Ks.getR V5 (n := i) (by omega) (by rw [lb]; omega)
    rw [Int.toNat_natCast, List.getElem?_map] at hy
    have hx : (Da ++ Dr)[i]? = some (Da ++ Dr)[i] := List.getElem?_eq_getElem hlt
    generalize (Da ++ Dr)[i] = x at hx
    rw [hx] at hy
    have hy : x.key = y := Option.some.inj hy
    subst hy
    have hxm := List.mem_of_getElem? hx
    simp only [hix, Tup.all hc, go_sem]
    refine (k15 (T4.bel hb') (by omega)).bind ?_
    rintro ⟨_, w5⟩ ⟨e5, b5⟩
    rw [get_of hA.keys (hmem x hxm) (hN x (hmem x hxm))] at e5
    simp only at e5 b5
    subst e5
    have c1 : decide ((q : Int) < x.till) = false := by rw [decide_eq_false_iff_not]; have := hDq x hxm; omega
    have c2 : decide (x.till < last) = false := by rw [decide_eq_false_iff_not]; have := hlast i x (Nat.le_refl _) hx; omega
    have VA5 := (VA4.bel hb').bel b5
    have c3 : decide (x.till ≤ (p : Int)) = decide ((i : Int) < (Da.length : Int)) := by
      by_cases ci : i < Da.length
      · have : x ∈ Da := by
          rw [List.getElem?_append_left ci] at hx
          exact List.mem_of_getElem? hx
        rw [decide_eq_true (hDp x this), decide_eq_true (by omega)]
      · have : x ∈ Dr := by
          rw [List.getElem?_append_right (by omega)] at hx
          exact List.mem_of_getElem? hx
        rw [decide_eq_false (hDn x this), decide_eq_false (by omega)]
    have qn : ∀ z : Bool, Qbin Try.prog .neq 4 (.bool z) (.bool z) = some (.bool false) := fun z => by rw [Qb_neqB (by kernel_rfl), bne_self_eq_false]
    simp only [Bool.not_true, c1, c2, VA5.len Ks.und30, la, c3, qn, go_sem]
    rw [wrap_i64 (n := (i : Int) + 1) (by omega) (by omega)]
    refine .ret (.inl ⟨rfl, (Da ++ Dr).length - (i + 1), by omega, i + 1, x.till, rfl, by omega, rfl, hb'.trans b5, fun j z hj hz => ?_⟩)
    unfold Srt at hDs
    rw [List.pairwise_iff_getElem] at hDs
    obtain ⟨hjl, ez⟩ := List.getElem?_eq_some_iff.1 hz
    obtain ⟨hil, ex⟩ := List.getElem?_eq_some_iff.1 hx
    have := hDs i j hil hjl (by omega)
    rw [ez, ex, lt_iff] at this
    omega
  · exact .ret (.inr ⟨by simp, .ret ⟨rfl, B4.trans hb'⟩⟩)

/-- Two numbers, as an array. -/
theorem und24 : Try.prog.underlying 24 = some (.array 2 23) := by kernel_rfl
theorem l3 {w : World} {n : Nat} {s : Value} {ds : List Deed} {p q : Nat} (hn : n < 256) (hv : View Deed.cs 8 w s ds) (hp : p < 65536) (hq : q < 65536) : Brings (s3 (.int .u8 (n : Int)) s (.agg #[.int .u16 (p : Int), .int .u16 (q : Int)]) w) (Yes w) := by
  unfold s3
  have bx : Xbox Try.prog 24 (.agg #[.int .u16 (p : Int), .int .u16 (q : Int)]) w = some (.pointer (some ⟨w.heap.size, 0, none⟩), w.alloc (.cells #[.int .u16 (p : Int), .int .u16 (q : Int)] 24)) := nonrfl rfl
  have hb : Bel w (w.alloc (.cells #[.int .u16 (p : Int), .int .u16 (q : Int)] 24)) := (Bel.refl w).alloc _
  have o1 := (MapKept.heap_alloc w (.cells #[.int .u16 (p : Int), .int .u16 (q : Int)] 24)).1
  simp only [bx, go_sem]
  generalize w.alloc (.cells #[.int .u16 (p : Int), .int .u16 (q : Int)] 24) = w1 at hb o1
  generalize w.heap.size = g at o1
  refine (k11 hn (hv.bel hb)).bind ?_
  rintro ⟨_, w2⟩ ⟨⟨a, rv, bv, b, sv, e2, b2, T, fa, fb⟩, hG⟩
  simp only at e2 b2 T
  subst e2
  have l8 : (limN n : Int) ≤ 8 := by unfold limN; omega
  have hL : (deedsM (↑(limN n)) (0, []) (ds.take 100)).2.length ≤ 12 := by have := hG.len; omega
  simp only [Qext_0, Qext_1, Qext_2, bind_some']
  refine k12.bind ?_
  rintro ⟨_, w3⟩ ⟨e3, b3⟩
  simp only at e3 b3
  subst e3
  have bd : Bel w3 w3.drew := (Bel.refl _).drew
  have o3 := ((b2.trans b3).trans bd).at_ o1
  have B3 := ((hb.trans b2).trans b3).trans bd
  have T3 := T.A.bel (b3.trans bd)
  obtain ⟨i, hi, hs⟩ := inf23
  have x0 : ∀ w', QindexAddr Try.prog 24 (.pointer (some ⟨g, 0, none⟩)) (.int .i64 0) w' = some (.pointer (some ⟨g, 0, none⟩)) := fun w' => QindexAddr_array (j := 0) und24 hi hs (by decide)
  have x1 : ∀ w', QindexAddr Try.prog 24 (.pointer (some ⟨g, 0, none⟩)) (.int .i64 1) w' = some (.pointer (some ⟨g, 1, none⟩)) := fun w' => QindexAddr_array (j := 1) und24 hi hs (by decide)
  have ld0 : Qload Try.prog 23 (.pointer (some ⟨g, 0, none⟩)) w3.drew = some (.int .u16 (p : Int)) := Qload_cell one23 (cell_at o3 rfl)
  have ld1 : Qload Try.prog 23 (.pointer (some ⟨g, 1, none⟩)) w3.drew = some (.int .u16 (q : Int)) := Qload_cell one23 (cell_at o3 rfl)
  have cv : ∀ m : Nat, m < 65536 → Qconv Try.prog 23 3 (.int .u16 (m : Int)) = some (.int .i64 (m : Int)) := fun m hm => by rw [Qconv_int (k := .i64) (by kernel_rfl), wrap_i64 (by omega) (by omega)]
  simp only [bind_some', Qun_not, Bool.not_true, guardQ_ff, isB_f, gv_t, Bool.not_false, Qpick_f, condK_f]
  simp only [x0, x1, ld0, ld1, cv p hp, cv q hq, go_sem]
  refine .cond (fun hgt => ?_) (fun hgt => ?_)
  · have hgt : q < p := by
      have : (q : Int) < p := by simpa using hgt
      omega
    exact m3 B3 T3 hL hG.apart hG.norm hG.tills (by omega) hp
  · have hgt : ¬ q < p := by
      have : ¬ (q : Int) < p := by simpa using hgt
      omega
    exact m3 B3 T3 hL hG.apart hG.norm hG.tills (by omega) hq

/-! ## The rows -/

set_option maxRecDepth 100000 in
theorem deeds {v : Value} {n : Nat} {w : World} {r : Reach} {b : Nat} (ho : Value.okWide Try.prog w r b 22 v) (h : Okc Try.prog w n 22 v.cells.toList) : ∃ ds : List Deed, View Deed.cs 8 w v ds := by
  obtain ⟨ds, hv, _⟩ := view_okc (f := Deed.cs) (size := 8) (ok := Deed.ok) und22 (by kernel_rfl) (by decide) (cells_slice und22 ho) (fun _ _ h => okc44 h) h
  exact ⟨ds, hv⟩
theorem nat8 {m : Int} (h : (Lit.int .u8 m).wf = true) : ∃ n : Nat, m = n ∧ n < 256 := wf_u (k := .u8) rfl h

set_option maxRecDepth 100000 in
theorem okc24 {w : World} {n : Nat} {cs : List Value} (h : Okc Try.prog w n 24 cs) : ∃ p q : Nat, p < 65536 ∧ q < 65536 ∧ cs = [.int .u16 (p : Int), .int .u16 (q : Int)] := by
  cases n with
  | zero => exact h.elim
  | succ n =>
    unfold Okc at h
    rw [und24] at h
    obtain ⟨hl, hf⟩ := h
    rw [show Try.prog.cellsOf 24 = 2 from by kernel_rfl] at hl
    rw [show Try.prog.cellsOf 23 = 1 from by kernel_rfl] at hf
    match cs, hl, hf with
    | [c0, c1], _, hf =>
      obtain ⟨m0, e0, h0⟩ := okc_int (k := .u16) (by kernel_rfl) (hf 0 (by decide))
      obtain ⟨m1, e1, h1⟩ := okc_int (k := .u16) (by kernel_rfl) (hf 1 (by decide))
      obtain ⟨p, rfl, hp⟩ := wf_u (k := .u16) rfl h0
      obtain ⟨q, rfl, hq⟩ := wf_u (k := .u16) rfl h1
      exact ⟨p, q, hp, hq, by rw [e0, e1]⟩

section laws
variable {n0 n1 : Nat} {m k : Int} {v0 v1 : Value} {w : World} {r0 r1 : Reach} {b0 b1 : Nat}
set_option maxRecDepth 100000 in
theorem law3 (h1 : (Lit.int .u8 m).wf = true) (ho0 : Value.okWide Try.prog w r0 b0 22 v0) (h0 : Okc Try.prog w n0 22 v0.cells.toList) (ho1 : Value.okWide Try.prog w r1 b1 24 v1) (h2 : Okc Try.prog w n1 24 v1.cells.toList) :
    Calls Try.prog 3 #[.int .u8 m, v0, v1] w fun e w' => e = .returned (.bool true) ∧ Below w.heap.size w w' := by
  obtain ⟨a, rfl, ha⟩ := nat8 h1
  obtain ⟨ds, hv⟩ := deeds ho0 h0
  obtain ⟨cs, rfl, _⟩ : ∃ cs : Array Value, v1 = .agg cs ∧ cs.size = Try.prog.cellsOf 24 := by
    simp only [Value.okWide, und24] at ho1
    obtain ⟨cs, h1, h2, _⟩ := ho1
    exact ⟨cs, h1, h2⟩
  obtain ⟨p, q, hp, hq, e⟩ := okc24 h2
  have e : cs.toList = [.int .u16 (p : Int), .int .u16 (q : Int)] := e
  have e2 : cs = #[.int .u16 (p : Int), .int .u16 (q : Int)] := by
    obtain ⟨l⟩ := cs
    simp only at e
    rw [e]
  rw [e2]
  exact law_of (l3 ha hv hp hq) fun _ => c3
set_option maxRecDepth 100000 in
theorem law4 (h1 : (Lit.int .u8 m).wf = true) (ho0 : Value.okWide Try.prog w r0 b0 22 v0) (h0 : Okc Try.prog w n0 22 v0.cells.toList) :
    Calls Try.prog 4 #[.int .u8 m, v0] w fun e w' => e = .returned (.bool true) ∧ Below w.heap.size w w' := by
  obtain ⟨a, rfl, ha⟩ := nat8 h1
  obtain ⟨ds, hv⟩ := deeds ho0 h0
  exact law_of (l4 ha hv) fun _ => c4
set_option maxRecDepth 100000 in
theorem law5 (h1 : (Lit.int .u8 m).wf = true) (ho0 : Value.okWide Try.prog w r0 b0 22 v0) (h0 : Okc Try.prog w n0 22 v0.cells.toList) (ho1 : Value.okWide Try.prog w r1 b1 44 v1) (h2 : Okc Try.prog w n1 44 v1.cells.toList) :
    Calls Try.prog 5 #[.int .u8 m, v0, v1] w fun e w' => e = .returned (.bool true) ∧ Below w.heap.size w w' := by
  obtain ⟨a, rfl, ha⟩ := nat8 h1
  obtain ⟨ds, hv⟩ := deeds ho0 h0
  obtain ⟨x, rfl, hx⟩ := open44 ho1 h2
  exact law_of (l5 ha hv) fun _ => c5
set_option maxRecDepth 100000 in
theorem law6 (h1 : (Lit.int .u8 m).wf = true) (ho0 : Value.okWide Try.prog w r0 b0 22 v0) (h0 : Okc Try.prog w n0 22 v0.cells.toList) (ho1 : Value.okWide Try.prog w r1 b1 44 v1) (h2 : Okc Try.prog w n1 44 v1.cells.toList) :
    Calls Try.prog 6 #[.int .u8 m, v0, v1] w fun e w' => e = .returned (.bool true) ∧ Below w.heap.size w w' := by
  obtain ⟨a, rfl, ha⟩ := nat8 h1
  obtain ⟨ds, hv⟩ := deeds ho0 h0
  obtain ⟨x, rfl, hx⟩ := open44 ho1 h2
  exact law_of (l6 ha hv) fun _ => c6
set_option maxRecDepth 100000 in
theorem law7 (h1 : (Lit.int .u8 m).wf = true) (ho0 : Value.okWide Try.prog w r0 b0 22 v0) (h0 : Okc Try.prog w n0 22 v0.cells.toList) (ho1 : Value.okWide Try.prog w r1 b1 44 v1) (h2 : Okc Try.prog w n1 44 v1.cells.toList) :
    Calls Try.prog 7 #[.int .u8 m, v0, v1] w fun e w' => e = .returned (.bool true) ∧ Below w.heap.size w w' := by
  obtain ⟨a, rfl, ha⟩ := nat8 h1
  obtain ⟨ds, hv⟩ := deeds ho0 h0
  obtain ⟨x, rfl, hx⟩ := open44 ho1 h2
  exact law_of (l7 ha hv) fun _ => c7
set_option maxRecDepth 100000 in
theorem law8 (h1 : (Lit.int .u8 m).wf = true) (ho0 : Value.okWide Try.prog w r0 b0 22 v0) (h0 : Okc Try.prog w n0 22 v0.cells.toList) (ho1 : Value.okWide Try.prog w r1 b1 22 v1) (h2 : Okc Try.prog w n1 22 v1.cells.toList) :
    Calls Try.prog 8 #[.int .u8 m, v0, v1] w fun e w' => e = .returned (.bool true) ∧ Below w.heap.size w w' := by
  obtain ⟨a, rfl, ha⟩ := nat8 h1
  obtain ⟨ds, hv⟩ := deeds ho0 h0
  obtain ⟨es, hv2⟩ := deeds ho1 h2
  exact law_of (l8 ha hv hv2) fun _ => c8
set_option maxRecDepth 100000 in
theorem law9 (ho0 : Value.okWide Try.prog w r0 b0 44 v0) (h0 : Okc Try.prog w n0 44 v0.cells.toList) (_ : (Lit.int .i64 k).wf = true) :
    Calls Try.prog 9 #[v0, .int .i64 k] w fun e w' => e = .returned (.bool true) ∧ Below w.heap.size w w' := by
  obtain ⟨x, rfl, hx⟩ := open44 ho0 h0
  exact law_of l9 fun _ => c9
end laws
end Go.Proofs.Ytcibkmahibnjeaa
