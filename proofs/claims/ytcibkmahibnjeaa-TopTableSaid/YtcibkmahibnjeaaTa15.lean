/- Laws of the table: plays, limits, keys, back, forks, none. -/
import Derived.Test.YtcibkmahibnjeaaTa14
namespace Go.Proofs.Ytcibkmahibnjeaa
open Go Go.Ev Go.RowKit
open Go.Proofs

def Yes (w : World) (r : Value × World) : Prop := r.1 = .bool true ∧ Bel w r.2
theorem qb4 (x : Bool) : Qbin Try.prog .eql 4 (.bool x) (.bool x) = some (.bool true) := by rw [Qb_eqlB (by kernel_rfl), beq_self_eq_true]

/-! ## Plays -/

theorem l6 {w : World} {n : Nat} {s : Value} {ds : List Deed} {x : Deed} (hn : n < 256) (hv : View Deed.cs 8 w s ds) : Brings (s6 (.int .u8 (n : Int)) s x.v w) (Yes w) := by
  unfold s6
  have A := x.new w
  have hb : Bel w (w.alloc (.cells x.cs.toArray 44)) := (Bel.refl w).alloc _
  rw [x.box]
  simp only [go_sem]
  generalize w.alloc (.cells x.cs.toArray 44) = w1 at A hb
  generalize w.heap.size = q at A
  refine (k11 hn (hv.bel hb)).bind ?_
  rintro ⟨_, w2⟩ ⟨⟨a, rv, bv, b, sv, e2, b2, T, fa, fb⟩, hG⟩
  simp only at e2 b2 T
  subst e2
  have l8 : (limN n : Int) ≤ 8 := by unfold limN; omega
  simp only [Qext_0, Qext_1, Qext_2, bind_some']
  refine k12.bind ?_
  rintro ⟨_, w3⟩ ⟨e3, b3⟩
  simp only at e3 b3
  subst e3
  have A3 := A.bel (b2.trans b3)
  simp only [go_sem, fb44x1, fb44x3, Tup.all (Deed.in1 A3), Deed.b3 A3]
  refine (k19 (T.bel b3) hG l8).bind ?_
  rintro ⟨_, w4⟩ ⟨e4, b4⟩
  simp only at e4 b4
  subst e4
  simp only [go_sem]
  exact .ret ⟨rfl, ((hb.trans b2).trans b3).trans b4⟩

/-! ## Keys -/

theorem key_eq {x y : Tup} (h : x.proto = y.proto) (h1 : x.src = y.src) (h2 : x.dst = y.dst) (h4 : x.dstPort = y.dstPort) (h3 : x.proto = 47) : keyM x = keyM y := by
  unfold keyM
  rw [if_pos h3, if_pos (h ▸ h3)]
  obtain ⟨a, b, c, d, e⟩ := x
  obtain ⟨a', b', c', d', e'⟩ := y
  simp only at h h1 h2 h4
  subst h h1 h2 h4
  rfl

theorem m5 {w w1 : World} {a q p : Nat} {rv : Value} {bv : List Value} {lim seq : Int} {L : List Rw} {x : Deed} {y : Tup} (hb : Bel w w1) (T : Tb w1 a rv bv lim seq L) (hL : L.length ≤ 100000) (A : CellsAt x.cs w1 q 0) (B : CellsAt y.cs w1 p 0) (hk : keyM y = keyM x.k) :
    Brings (s5M0 (.pointer (some ⟨q, 0, none⟩)) (.pointer (some ⟨a, 0, none⟩)) (.pointer (some ⟨p, 0, none⟩)) w1) (Yes w) := by
  unfold s5M0
  simp only [fb44x1, Tup.all (Deed.in1 A), go_sem]
  refine (k15 T hL).bind ?_
  rintro ⟨_, w2⟩ ⟨e2, b2⟩
  simp only at e2 b2
  subst e2
  simp only [Tup.all (B.bel b2), go_sem]
  refine (k15 (T.bel b2) hL).bind ?_
  rintro ⟨_, w3⟩ ⟨e3, b3⟩
  simp only at e3 b3
  subst e3
  have b23 := b2.trans b3
  simp only [Tup.all (Deed.in1 (A.bel b23)), fb44x1, go_sem]
  refine k18.bind ?_
  rintro ⟨_, w4⟩ ⟨e4, b4⟩
  simp only at e4 b4
  subst e4
  simp only
  refine (k15 (T.bel (b23.trans b4)) hL).bind ?_
  rintro ⟨_, w5⟩ ⟨e5, b5⟩
  simp only at e5 b5
  subst e5
  have g1 : getM L y = getM L x.k := by unfold getM; rw [hk]
  have g2 : getM L (keyM x.k) = getM L x.k := by unfold getM; rw [keyM_idem]
  simp only [g1, g2, beq_self_eq_true, qb4, go_sem]
  exact .ret ⟨rfl, ((hb.trans b23).trans b4).trans b5⟩

/-- A port is written. -/
theorem strikeP {w : World} {g : Nat} {x : Tup} {d : Int} (hg : w.heap[g]? = some (.cells x.cs.toArray 37 (0, 0))) : Xstore Try.prog 23 (.pointer (some ⟨g, 3, none⟩)) (.int .u16 d) w = some (undef, w.setRow g ({ x with srcPort := d } : Tup).cs.toArray) := by
  obtain ⟨i, hi, hs⟩ := inf23
  rw [Xstore_row (P := Try.prog) (t := 23) (v := .int .u16 d) hi (by rw [hs]; rfl) hg (o := 3) (by rw [hs]; simp [Tup.cs]) (by intro u hu; simp [Value.cells] at hu; subst hu; rfl), hs]
  rfl

theorem l5 {w : World} {n : Nat} {s : Value} {ds : List Deed} {x : Deed} (hn : n < 256) (hv : View Deed.cs 8 w s ds) : Brings (s5 (.int .u8 (n : Int)) s x.v w) (Yes w) := by
  unfold s5
  have A := x.new w
  have hb : Bel w (w.alloc (.cells x.cs.toArray 44)) := (Bel.refl w).alloc _
  rw [x.box]
  simp only [go_sem]
  generalize w.alloc (.cells x.cs.toArray 44) = w1 at A hb
  generalize w.heap.size = q at A
  refine (k11 hn (hv.bel hb)).bind ?_
  rintro ⟨_, w2⟩ ⟨⟨a, rv, bv, b, sv, e2, b2, T, fa, fb⟩, hG⟩
  simp only at e2 b2 T
  subst e2
  have l8 : (limN n : Int) ≤ 8 := by unfold limN; omega
  have hL : (deedsM (↑(limN n)) (0, []) (ds.take 100)).2.length ≤ 100000 := by have := hG.len; omega
  simp only [Qext_0, Qext_1, Qext_2, bind_some']
  refine k12.bind ?_
  rintro ⟨_, w3⟩ ⟨e3, b3⟩
  simp only at e3 b3
  subst e3
  have A3 := A.bel (b2.trans b3)
  have hb3 := (hb.trans b2).trans b3
  have T3 := T.A.bel b3
  simp only [bind_some', Qun_not, Bool.not_true, guardQ_ff, isB_f, gv_t, Bool.not_false, Qpick_f, condK_f, fb44x1, Tup.all (Deed.in1 A3)]
  have V1 := (Locals.nil w3).add rfl (.cells Tup.zero.cs.toArray 37)
  have o1 : (w3.alloc (.cells Tup.zero.cs.toArray 37)).heap[w3.heap.size]? = some (.cells Tup.zero.cs.toArray 37) := V1.at_ 0 _ rfl
  have V2 := V1.row (j := 0) (k := w3.heap.size) rfl rfl x.k.cs.toArray
  have V2 : Locals w3 [.cells x.k.cs.toArray 37] ((w3.alloc (.cells Tup.zero.cs.toArray 37)).setRow w3.heap.size x.k.cs.toArray) := V2
  have o2 : ((w3.alloc (.cells Tup.zero.cs.toArray 37)).setRow w3.heap.size x.k.cs.toArray).heap[w3.heap.size]? = some (.cells x.k.cs.toArray 37) := V2.at_ 0 _ rfl
  simp only [alloc37, store37 o1 rfl, Tup.b0 (CellsAt.of o2), go_sem]
  generalize (w3.alloc (.cells Tup.zero.cs.toArray 37)).setRow w3.heap.size x.k.cs.toArray = w4 at V2 o2
  by_cases c : x.k.proto = 47
  · rw [beq_iff_eq.2 c]
    simp only [Tup.b3 (CellsAt.of o2), strikeP o2, go_sem]
    have V3 := V2.row (j := 0) (k := w3.heap.size) rfl rfl ({ x.k with srcPort := ixor .u16 x.k.srcPort 1 } : Tup).cs.toArray
    have o3 : (w4.setRow w3.heap.size ({ x.k with srcPort := ixor .u16 x.k.srcPort 1 } : Tup).cs.toArray).heap[w3.heap.size]? = some (.cells ({ x.k with srcPort := ixor .u16 x.k.srcPort 1 } : Tup).cs.toArray 37) := V3.at_ 0 _ rfl
    exact m5 (hb3.trans V3.bel) (T3.bel V3.bel) hL (A3.bel V3.bel) (CellsAt.of o3) (key_eq (by rfl) (by rfl) (by rfl) (by rfl) c)
  · rw [show (x.k.proto == 47) = false by rw [beq_eq_false_iff_ne]; exact c]
    simp only [go_sem]
    exact m5 (hb3.trans V2.bel) (T3.bel V2.bel) hL (A3.bel V2.bel) (CellsAt.of o2) rfl

/-! ## Limits -/

theorem ord_all {L : List Rw} {p : Rw → Bool} (hs : L.Pairwise fun x y => x.seq ≠ y.seq) (h : ∀ x ∈ L, p x = true) : ((ordM L).filter p).length = L.length := by
  rw [List.filter_eq_self.2 fun x hx => h x ((ord_mem hs x).1 hx), ord_len hs]

theorem get_has {L : List Rw} {k : Tup} : (getM L k).2.2 = hasK L (keyM k) := by
  unfold getM hasK
  cases e : L.find? (isK (keyM k)) with
  | none =>
    rw [List.find?_eq_none] at e
    symm
    show L.any (isK (keyM k)) = false
    rw [List.any_eq_false]
    exact e
  | some x =>
    symm
    show L.any (isK (keyM k)) = true
    rw [List.any_eq_true]
    exact ⟨x, List.mem_of_find?_eq_some e, List.find?_some e⟩

theorem build37b (w : World) : Qbuild Try.prog 37 #[(0, .int .u8 255), (1, .int .u32 77), (4, .int .u16 9)] w = some (⟨255, 77, 0, 0, 9⟩ : Tup).v := by kernel_rfl

theorem l4 {w : World} {n : Nat} {s : Value} {ds : List Deed} (hn : n < 256) (hv : View Deed.cs 8 w s ds) : Brings (s4 (.int .u8 (n : Int)) s w) (Yes w) := by
  unfold s4
  refine (k11 hn hv).bind ?_
  rintro ⟨_, w2⟩ ⟨⟨a, rv, bv, b, sv, e2, b2, T, fa, fb⟩, hG⟩
  simp only at e2 b2 T
  subst e2
  have cv : Qconv Try.prog 5 3 (.int .u8 (n : Int)) = some (.int .i64 (n : Int)) := by rw [Qconv_int (k := .i64) (by kernel_rfl), wrap_i64 (by omega) (by omega)]
  have d1 : (n : Int).tmod 8 = ((n % 8 : Nat) : Int) := by rw [Int.tmod_eq_emod_of_nonneg (by omega)]; rfl
  have n8 : (8 : Int) ≠ 0 := by decide
  have wr : IntKind.i64.wrap (((n % 8 : Nat) : Int) + 1) = (limN n : Int) := by rw [wrap_i64 (by omega) (by omega)]; rfl
  have l8 : (limN n : Int) ≤ 8 := by unfold limN; omega
  have l1 : (1 : Int) ≤ limN n := by unfold limN; omega
  generalize limN n = lim at *
  generalize deedsM (↑lim) (0, []) (ds.take 100) = st at T hG
  obtain ⟨seq, L⟩ := st
  have hle : (L.length : Int) ≤ lim := hG.len
  have TA : Tb w2 a rv bv lim seq L := T.A
  have hA : Apart seq L := hG.apart
  simp only [Qext_0, Qext_1, Qext_2, bind_some', cv, Qb_remP n8, d1, Qb_add, wr]
  refine k12.bind ?_
  rintro ⟨_, w3⟩ ⟨e3, b3⟩
  simp only at e3 b3
  subst e3
  have TA := TA.bel b3
  have B := b2.trans b3
  simp only [bind_some', Qun_not, Bool.not_true, guardQ_ff, guardX_ff, isB_f, gv_t, Bool.not_false, Qpick_f, condK_f]
  refine (k16 TA).bind ?_
  rintro _ rfl
  have g1 : decide ((lim : Int) < (L.length : Int)) = false := by rw [decide_eq_false_iff_not]; omega
  simp only [go_sem, g1]
  refine (k16 TA).bind ?_
  rintro _ rfl
  simp only
  refine (k13 TA (by omega) hA).bind ?_
  rintro ⟨u, w4⟩ ⟨F1, F2, F3⟩
  simp only at F1 F2 F3
  have TA := TA.bel F1
  have B := B.trans F1
  have dl : (dueM L 1099511627776).length = L.length := by
    unfold dueM
    rw [List.length_map]
    refine ord_all hA.seqs fun x hx => ?_
    have := hG.tills x hx
    unfold mayT at this
    unfold dueP
    rw [Bool.and_eq_true] at this
    exact this.2
  have V := View.of_owns F2 (Tup.lens _)
  simp only [V.len Ks.und30, dl, bne_self_eq_false, build37b, go_sem]
  have V1 := (Locals.nil w4).add rfl (.cells Tup.zero.cs.toArray 37)
  have o1 : (w4.alloc (.cells Tup.zero.cs.toArray 37)).heap[w4.heap.size]? = some (.cells Tup.zero.cs.toArray 37) := V1.at_ 0 _ rfl
  have V2 := V1.row (j := 0) (k := w4.heap.size) rfl rfl (⟨255, 77, 0, 0, 9⟩ : Tup).cs.toArray
  have V2 : Locals w4 [.cells (⟨255, 77, 0, 0, 9⟩ : Tup).cs.toArray 37] ((w4.alloc (.cells Tup.zero.cs.toArray 37)).setRow w4.heap.size (⟨255, 77, 0, 0, 9⟩ : Tup).cs.toArray) := V2
  have o2 : ((w4.alloc (.cells Tup.zero.cs.toArray 37)).setRow w4.heap.size (⟨255, 77, 0, 0, 9⟩ : Tup).cs.toArray).heap[w4.heap.size]? = some (.cells (⟨255, 77, 0, 0, 9⟩ : Tup).cs.toArray 37) := V2.at_ 0 _ rfl
  simp only [alloc37, store37 o1 rfl, load37 o2, go_sem]
  generalize (w4.alloc (.cells Tup.zero.cs.toArray 37)).setRow w4.heap.size (⟨255, 77, 0, 0, 9⟩ : Tup).cs.toArray = w5 at V2 o2
  have TA := TA.bel V2.bel
  have B := B.trans V2.bel
  generalize hkk : (⟨255, 77, 0, 0, 9⟩ : Tup) = kk at o2
  refine (k15 (k := kk) TA (by omega)).bind ?_
  rintro ⟨_, w6⟩ ⟨e6, b6⟩
  simp only at e6 b6
  subst e6
  have TA := TA.bel b6
  have B := B.trans b6
  simp only [load37 (b6.at_ o2), go_sem]
  have hS : Small seq L := ⟨hG.s0, by have := hG.s1; show seq ≤ 100000; have : seq ≤ ((100 : Nat) : Int) := hG.s1; omega, by omega⟩
  refine (k17 (id := 1) (till := 1) TA hS).bind ?_
  rintro ⟨_, w7⟩ ⟨e7, c7, bv', T7, f7⟩
  simp only at e7 c7 T7
  subst e7
  have B7 : Bel w w7 := (B.thenChg c7).bel fun k hk hs => by have := fa k hs; omega
  rw [get_has]
  unfold putM at T7 ⊢
  rw [if_neg (show ¬ mayT 1 = false by decide)] at T7 ⊢
  cases hh : hasK L (keyM kk) with
  | true =>
    simp only [hh, if_true, show ((10 : Int) == 10) = true from rfl, go_sem]
    exact .ret ⟨rfl, B7⟩
  | false =>
    rw [hh] at T7
    simp only [Bool.false_eq_true, if_false] at T7
    simp only [hh, Bool.false_eq_true, if_false, go_sem]
    by_cases hl : (lim : Int) ≤ L.length
    · rw [if_pos hl] at T7 ⊢
      simp only [show ((9 : Int) == 0) = false from rfl, show ((9 : Int) == 9) = true from rfl, go_sem]
      refine (k16 T7).bind ?_
      rintro _ rfl
      have : ((L.length : Int) == lim) = true := by rw [beq_iff_eq]; omega
      simp only [this, go_sem]
      exact .ret ⟨rfl, B7⟩
    · rw [if_neg hl] at T7 ⊢
      simp only [show ((0 : Int) == 0) = true from rfl, go_sem]
      refine (k16 T7).bind ?_
      rintro _ rfl
      have : decide (((L ++ [(⟨keyM kk, 1, 1, seq + 1⟩ : Rw)]).length : Int) ≤ lim) = true := by
        rw [decide_eq_true_iff, List.length_append]; simp; omega
      simp only [this, go_sem]
      exact .ret ⟨rfl, B7⟩

/-! ## Back -/

theorem move_last {L : List Rw} {k : Tup} {id t1 t2 q1 q2 : Int} (h : hasK L k = false) : moveL (L ++ [⟨k, id, t1, q1⟩]) k t2 q2 = L ++ [⟨k, id, t2, q2⟩] := by
  unfold moveL
  rw [List.map_append]
  have e : L.map (fun x => if isK k x = true then moveF t2 q2 x else x) = L := by
    refine move_no (till := t2) (seq := q2) fun x hx => ?_
    unfold hasK at h
    rw [List.any_eq_false] at h
    simpa [isK] using h x hx
  rw [e]
  simp [isK, moveF]
theorem drop_last {L : List Rw} {k : Tup} {id t q : Int} (h : hasK L k = false) : dropL (L ++ [⟨k, id, t, q⟩]) k = L := by
  unfold dropL
  rw [List.filter_append]
  have e : L.filter (fun x => !isK k x) = L := by
    refine drop_no fun x hx => ?_
    unfold hasK at h
    rw [List.any_eq_false] at h
    simpa [isK] using h x hx
  rw [e]
  simp [isK]
theorem has_last {L : List Rw} {k : Tup} {id t q : Int} : hasK (L ++ [⟨k, id, t, q⟩]) k = true := by
  unfold hasK
  rw [List.any_append]
  simp [isK]
theorem get_last {L : List Rw} {k : Tup} {id t q : Int} (h : hasK L (keyM k) = false) : getM (L ++ [⟨keyM k, id, t, q⟩]) k = (id, t, true) := by
  unfold getM
  rw [List.find?_append]
  have : L.find? (isK (keyM k)) = none := by
    rw [List.find?_eq_none]
    unfold hasK at h
    rw [List.any_eq_false] at h
    exact h
  rw [this]
  simp [isK]

theorem l7 {w : World} {n : Nat} {s : Value} {ds : List Deed} {x : Deed} (hn : n < 256) (hv : View Deed.cs 8 w s ds) : Brings (s7 (.int .u8 (n : Int)) s x.v w) (Yes w) := by
  unfold s7
  have A := x.new w
  have hb : Bel w (w.alloc (.cells x.cs.toArray 44)) := (Bel.refl w).alloc _
  rw [x.box]
  simp only [go_sem]
  have s1 : w.heap.size < (w.alloc (.cells x.cs.toArray 44)).heap.size := by simp
  generalize w.alloc (.cells x.cs.toArray 44) = w1 at A hb s1
  refine (k11 hn (hv.bel hb)).bind ?_
  rintro ⟨_, w2⟩ ⟨⟨a, rv, bv, b, sv, e2, b2, T, fa, fb⟩, hG⟩
  simp only at e2 b2 T
  subst e2
  have cv : Qconv Try.prog 5 3 (.int .u8 (n : Int)) = some (.int .i64 (n : Int)) := by rw [Qconv_int (k := .i64) (by kernel_rfl), wrap_i64 (by omega) (by omega)]
  have d1 : (n : Int).tmod 8 = ((n % 8 : Nat) : Int) := by rw [Int.tmod_eq_emod_of_nonneg (by omega)]; rfl
  have n8 : (8 : Int) ≠ 0 := by decide
  have wr : IntKind.i64.wrap (((n % 8 : Nat) : Int) + 1) = (limN n : Int) := by rw [wrap_i64 (by omega) (by omega)]; rfl
  have l8 : (limN n : Int) ≤ 8 := by unfold limN; omega
  generalize limN n = lim at *
  generalize deedsM (↑lim) (0, []) (ds.take 100) = st at T hG
  obtain ⟨seq, L⟩ := st
  have hle : (L.length : Int) ≤ lim := hG.len
  have hA : Apart seq L := hG.apart
  have q0 : 0 ≤ seq := hG.s0
  have q1 : seq ≤ ((100 : Nat) : Int) := hG.s1
  have fq : ∀ k, Foot a rv bv k → k ≠ w.heap.size := fun k hk => by have := fa k hk; omega
  generalize w.heap.size = q at A fq s1
  simp only [Qext_0, Qext_1, Qext_2, bind_some']
  refine k12.bind ?_
  rintro ⟨_, w3⟩ ⟨e3, b3⟩
  simp only at e3 b3
  subst e3
  have T := T.bel b3
  have B := (hb.trans b2).trans b3
  have A3 := A.bel (b2.trans b3)
  simp only [bind_some', Qun_not, Bool.not_true, guardQ_ff, isB_f, gv_t, Bool.not_false, Qpick_f, condK_f, fb44x1, Tup.all (Deed.in1 A3)]
  refine (k15 T.A (by show L.length ≤ 100000; omega)).bind ?_
  rintro ⟨_, w4⟩ ⟨e4, b4⟩
  simp only at e4 b4
  subst e4
  have T := T.bel b4
  have B := B.trans b4
  have A4 := A3.bel b4
  simp only [Qext_0, Qext_1, Qext_2, bind_some']
  rw [get_has]
  cases hh : hasK L (keyM x.k) with
  | true =>
    simp only [go_sem]
    exact .ret ⟨rfl, B⟩
  | false =>
  simp only [go_sem, fb44x1, fb44x2, Tup.all (Deed.in1 A4), Deed.b2 A4]
  refine (k17 (till := 3) T.A ⟨q0, by show seq ≤ 100000; omega, by show L.length ≤ 100000; omega⟩).bind ?_
  rintro ⟨_, w5⟩ ⟨e5, c5, bv5, T5, f5⟩
  simp only at e5 c5 T5 f5
  subst e5
  have T5r := T.B.chg c5 fun k hk hf => T.dis k hf hk
  have lw4 := B.size
  have ff : ∀ k, Foot a rv bv5 k → w1.heap.size ≤ k := fun k hk => by
    rcases f5 k hk with h1 | h1
    · exact fa k h1
    · have := (b2.trans b3).trans b4 |>.size; omega
  have dis5 : ∀ k, Foot a rv bv5 k → ¬ FootR b sv k := fun k hk hf => by
    rcases f5 k hk with h1 | h1
    · exact T.dis k h1 hf
    · have := T.B.lt k hf; omega
  have A5 := A4.chg c5 fun hf => fq q hf rfl
  have B5 : Bel w w5 := (B.thenChg c5).bel fun k hk hs => by have := fa k hs; have := hb.size; omega
  unfold putM at T5 ⊢
  rw [if_neg (show ¬ mayT 3 = false by decide)] at T5 ⊢
  rw [if_neg (show ¬ hasK (seq, L).2 (keyM x.k) = true by rw [show (seq, L).2 = L from rfl, hh]; decide)] at T5 ⊢
  by_cases hl : (lim : Int) ≤ ((seq, L).2.length : Int)
  · rw [if_pos hl] at T5 ⊢
    have hl : (lim : Int) ≤ (L.length : Int) := hl
    simp only [show ((9 : Int) != 0) = true from rfl, go_sem]
    refine (k16 T5).bind ?_
    rintro _ rfl
    have : ((L.length : Int) == lim) = true := by rw [beq_iff_eq]; omega
    simp only [cv, Qb_remP n8, d1, wr, this, go_sem]
    exact .ret ⟨rfl, B5⟩
  · rw [if_neg hl] at T5 ⊢
    have hl : ¬ (lim : Int) ≤ (L.length : Int) := hl
    have T5 : Tb w5 a rv bv5 lim (seq + 1) (L ++ [⟨keyM x.k, x.id_, 3, seq + 1⟩]) := T5
    simp only [show ((0 : Int) != 0) = false from rfl, fb44x1, Tup.all (Deed.in1 A5), go_sem]
    have G1 : Good lim 101 (seq + 1, L ++ [⟨keyM x.k, x.id_, 3, seq + 1⟩]) := by
      have := hG.put x.k x.id_ 3
      unfold putM at this
      rw [if_neg (show ¬ mayT 3 = false by decide), if_neg (show ¬ hasK (seq, L).2 (keyM x.k) = true by rw [show (seq, L).2 = L from rfl, hh]; decide), if_neg hl] at this
      exact this
    have A1 : Apart (seq + 1) (L ++ [⟨keyM x.k, x.id_, 3, seq + 1⟩]) := G1.apart
    have l1 : (L ++ [(⟨keyM x.k, x.id_, 3, seq + 1⟩ : Rw)]).length ≤ 100000 := by rw [List.length_append]; simp; omega
    refine (k20 (till := 5) T5 ⟨by omega, by omega, l1⟩ A1).bind ?_
    rintro ⟨_, w6⟩ ⟨e6, c6, bv6, T6, f6⟩
    unfold moveM at e6 T6
    rw [if_neg (show ¬ mayT 5 = false by decide), has_last, if_pos rfl, move_last hh] at e6 T6
    simp only at e6 c6 T6 f6
    subst e6
    have A6 := A5.chg c6 fun hf => by
      rcases f5 q hf with h1 | h1
      · exact fq q h1 rfl
      · have := (b2.trans b3).trans b4 |>.size; omega
    have B6 : Bel w w6 := (B5.thenChg c6).bel fun k hk hs => by have := ff k hs; have := hb.size; omega
    have sz5 : w1.heap.size ≤ w5.heap.size := by have := ((b2.trans b3).trans b4).size; have := c5.size; omega
    have ff6 : ∀ k, Foot a rv bv6 k → w1.heap.size ≤ k := fun k hk => by
      rcases f6 k hk with h1 | h1
      · exact ff k h1
      · omega
    have T6r := T5r.chg c6 fun k hk hf => dis5 k hf hk
    simp only [show ((0 : Int) != 0) = false from rfl, fb44x1, Tup.all (Deed.in1 A6), go_sem]
    refine (k15 T6 (by rw [List.length_append]; simp; omega)).bind ?_
    rintro ⟨_, w7⟩ ⟨e7, b7⟩
    rw [get_last hh] at e7
    simp only at e7 b7
    subst e7
    have T7 := T6.bel b7
    have A7 := A6.bel b7
    have B7 := B6.trans b7
    simp only [fb44x1, fb44x2, Tup.all (Deed.in1 A7), Deed.b2 A7, beq_self_eq_true, show ((5 : Int) == 5) = true from rfl, go_sem]
    have A2 : Apart (seq + 2) (L ++ [⟨keyM x.k, x.id_, 5, seq + 2⟩]) := by
      have := apart_move (till := 5) (k := keyM x.k) A1
      rw [show seq + 1 + 1 = seq + 2 by omega, move_last hh] at this
      exact this
    rw [show seq + 1 + 1 = seq + 2 by omega] at T7
    have l2 : (L ++ [(⟨keyM x.k, x.id_, 5, seq + 2⟩ : Rw)]).length ≤ 100000 := by rw [List.length_append]; simp; omega
    refine (k21 T7 ⟨by omega, by omega, l2⟩ A2).bind ?_
    rintro ⟨_, w8⟩ ⟨e8, c8, bv8, T8, f8⟩
    unfold dropM at e8 T8
    rw [has_last, if_pos rfl, drop_last hh] at e8 T8
    simp only at e8 c8 T8 f8
    subst e8
    have sz6 : w1.heap.size ≤ w7.heap.size := by have := c6.size; have := b7.size; omega
    have A8 := A7.chg c8 fun hf => by have := ff6 q hf; omega
    have B8 : Bel w w8 := (B7.thenChg c8).bel fun k hk hs => by have := ff6 k hs; have := hb.size; omega
    have dis6 : ∀ k, Foot a rv bv6 k → ¬ FootR b sv k := fun k hk hf => by
      rcases f6 k hk with h1 | h1
      · exact dis5 k h1 hf
      · have := T5r.lt k hf; omega
    have T8r := (T6r.bel b7).chg c8 fun k hk hf => dis6 k hf hk
    simp only [show ((0 : Int) == 0) = true from rfl, fb44x1, Tup.all (Deed.in1 A8), go_sem]
    have A3' : Apart (seq + 2) L := ⟨hA.keys, hA.seqs, fun y hy => by have := hA.most y hy; omega⟩
    refine (k21 T8 ⟨by omega, by omega, by omega⟩ A3').bind ?_
    rintro ⟨_, w9⟩ ⟨e9, c9, bv9, T9, f9⟩
    unfold dropM at e9 T9
    rw [if_neg (by rw [hh]; decide)] at e9 T9
    simp only at e9 c9 T9 f9
    subst e9
    have ff8 : ∀ k, Foot a rv bv8 k → w1.heap.size ≤ k := fun k hk => by
      rcases f8 k hk with h1 | h1
      · exact ff6 k h1
      · omega
    have A9 := A8.chg c9 fun hf => by have := ff8 q hf; omega
    have B9 : Bel w w9 := (B8.thenChg c9).bel fun k hk hs => by have := ff8 k hs; have := hb.size; omega
    have dis8 : ∀ k, Foot a rv bv8 k → ¬ FootR b sv k := fun k hk hf => by
      rcases f8 k hk with h1 | h1
      · exact dis6 k h1 hf
      · have := (T6r.bel b7).lt k hf; omega
    have T9r := T8r.chg c9 fun k hk hf => dis8 k hf hk
    simp only [show ((11 : Int) == 11) = true from rfl, fb44x1, Tup.all (Deed.in1 A9), go_sem]
    refine (k19s (k := x.k) (now := 9) T9 T9r (by show L.length ≤ 8; omega) A3').bind ?_
    rintro ⟨_, w10⟩ ⟨e10, b10⟩
    simp only at e10 b10
    subst e10
    simp only [go_sem]
    exact .ret ⟨rfl, B9.trans b10⟩

end Go.Proofs.Ytcibkmahibnjeaa
