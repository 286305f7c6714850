/- A table: put, told. -/
import Derived.Test.YtcibkmahibnjeaaTa5
namespace Go.Proofs.Ytcibkmahibnjeaa
open Go Go.Ev Go.RowKit
open Go.Proofs

theorem inf3 : ∃ i, Try.prog.info? 3 = some i ∧ i.size = 1 := ⟨(Try.prog.info? 3).get (by kernel_rfl), by kernel_rfl, by kernel_rfl⟩
theorem tset4 {w : World} {a : Nat} {c0 c1 c2 c3 c4 : Value} (hg : w.heap[a]? = some (.cells #[c0, c1, c2, c3, c4] 70 (0, 0))) (n : Int) : Xstore Try.prog 3 (.pointer (some ⟨a, 4, none⟩)) (.int .i64 n) w = some (undef, w.setRow a #[c0, c1, c2, c3, .int .i64 n]) := by
  obtain ⟨i, hi, hs⟩ := inf3
  rw [Xstore_row (P := Try.prog) (t := 3) (v := .int .i64 n) hi (by rw [hs]; rfl) hg (o := 4) (by rw [hs]; simp) (by intro u hu; simp [Value.cells] at hu; subst hu; rfl), hs]
  rfl
theorem tset2 {w : World} {a : Nat} {c0 c1 c2 c3 c4 : Value} (hg : w.heap[a]? = some (.cells #[c0, c1, c2, c3, c4] 70 (0, 0))) (n : Int) : Xstore Try.prog 3 (.pointer (some ⟨a, 2, none⟩)) (.int .i64 n) w = some (undef, w.setRow a #[c0, c1, .int .i64 n, c3, c4]) := by
  obtain ⟨i, hi, hs⟩ := inf3
  rw [Xstore_row (P := Try.prog) (t := 3) (v := .int .i64 n) hi (by rw [hs]; rfl) hg (o := 2) (by rw [hs]; simp) (by intro u hu; simp [Value.cells] at hu; subst hu; rfl), hs]
  rfl
theorem tl3 {w : World} {a : Nat} {c0 c1 c2 c3 : Value} {n : Int} (hg : w.heap[a]? = some (.cells #[c0, c1, c2, c3, .int .i64 n] 70 (0, 0))) : Qload Try.prog 3 (.pointer (some ⟨a, 4, none⟩)) w = some (.int .i64 n) := Qload_cell one3 (cell_at hg rfl)
theorem tl2 {w : World} {a : Nat} {c0 c1 c3 c4 : Value} {n : Int} (hg : w.heap[a]? = some (.cells #[c0, c1, .int .i64 n, c3, c4] 70 (0, 0))) : Qload Try.prog 3 (.pointer (some ⟨a, 2, none⟩)) w = some (.int .i64 n) := Qload_cell one3 (cell_at hg rfl)

/-- A tuple is put. -/
def putM (lim seq : Int) (L : List Rw) (k : Tup) (id till : Int) : Int × Int × List Rw :=
  if mayT till = false then (2, seq, L) else if hasK L (keyM k) = true then (10, seq, L) else if lim ≤ L.length then (9, seq, L) else (0, seq + 1, L ++ [⟨keyM k, id, till, seq + 1⟩])

/-- What a deed brings. -/
def Did (w : World) (a : Nat) (rv : Value) (bv : List Value) (lim : Int) (t : Int × Int × List Rw) (r : Value × World) : Prop :=
  r.1 = .int .i64 t.1 ∧ Chg (Foot a rv bv) w r.2 ∧ ∃ bv', Tb r.2 a rv bv' lim t.2.1 t.2.2 ∧ ∀ k, Foot a rv bv' k → Foot a rv bv k ∨ w.heap.size ≤ k
theorem did_same {w w' : World} {a : Nat} {rv : Value} {bv : List Value} {lim seq : Int} {L : List Rw} {e : Int} (h : Tb w a rv bv lim seq L) (hb : Bel w w') : Did w a rv bv lim (e, seq, L) (.int .i64 e, w') :=
  ⟨rfl, .of_bel hb _, bv, h.bel hb, fun k hk => .inl hk⟩

/-- What is bounded. -/
structure Small (seq : Int) (L : List Rw) : Prop where
  s0 : 0 ≤ seq
  s1 : seq ≤ 100000
  l1 : L.length ≤ 100000

theorem build73 (x : Rw) (w : World) : Qbuild Try.prog 73 #[(0, x.key.v), (1, .int .i64 x.value), (2, .int .i64 x.till), (3, .int .i64 x.seq)] w = some x.v := by kernel_rfl

theorem Bj_add {L : List Rw} {x : Rw} : Bj (L ++ [x]) (bk x.key) = Bj L (bk x.key) ++ [x] := by simp [Bj]
theorem Bj_add_ne {L : List Rw} {x : Rw} {i : Nat} (h : i ≠ bk x.key) : Bj (L ++ [x]) i = Bj L i := by
  have : ¬ bk x.key = i := fun e => h e.symm
  simp [Bj, this]

theorem k17 {w : World} {a : Nat} {rv : Value} {bv : List Value} {lim seq id till : Int} {L : List Rw} {k : Tup} (h : Tb w a rv bv lim seq L) (hS : Small seq L) :
    Brings (Xcall Try.prog (Value.func (Fn.func 17) #[] #[]) #[.pointer (some ⟨a, 0, none⟩), k.v, .int .i64 id, .int .i64 till] w) (Did w a rv bv lim (putM lim seq L k id till)) := by
  refine e17 ?_
  unfold s17 putM
  have V1 := (Locals.nil w).add rfl (.cells k.cs.toArray 37)
  have V1 : Locals w [.cells k.cs.toArray 37] (w.alloc (.cells k.cs.toArray 37)) := V1
  rw [k.box]
  simp only [go_sem]
  generalize w.alloc (.cells k.cs.toArray 37) = w1 at V1
  refine k33.bind ?_
  rintro _ rfl
  cases ht : mayT till with
  | false =>
    simp only [Bool.false_eq_true, if_false, if_true, show ((2 : Int) != 0) = true from rfl, go_sem]
    exact .ret (did_same h V1.bel)
  | true =>
  have o1 : w1.heap[w.heap.size]? = some (.cells k.cs.toArray 37) := V1.at_ 0 _ rfl
  simp only [Bool.true_eq_false, if_false, if_true, show ((0 : Int) != 0) = false from rfl, load37 o1, go_sem]
  refine k32.bind ?_
  rintro ⟨_, w2⟩ ⟨e2, b2⟩
  simp only at e2 b2
  subst e2
  have V2 := V1.later b2
  have o2 : w2.heap[w.heap.size]? = some (.cells k.cs.toArray 37) := V2.at_ 0 _ rfl
  have V3 := (V2.row (j := 0) (k := w.heap.size) rfl rfl (keyM k).cs.toArray).later (Bel.refl _).drew
  have V3 : Locals w [.cells (keyM k).cs.toArray 37] (w2.setRow w.heap.size (keyM k).cs.toArray).drew := V3
  have o3 : (w2.setRow w.heap.size (keyM k).cs.toArray).drew.heap[w.heap.size]? = some (.cells (keyM k).cs.toArray 37) := V3.at_ 0 _ rfl
  simp only [store37 o2 rfl, fa70x0, load37 o3, go_sem]
  generalize (w2.setRow w.heap.size (keyM k).cs.toArray).drew = w3 at V3 o3
  have h3 := h.bel V3.bel
  refine (k31 (k := keyM k) h3 hS.l1).bind ?_
  rintro ⟨p, w4⟩ ⟨b4, hf⟩
  simp only at b4 hf
  rcases hf with ⟨hf, rfl⟩ | ⟨i, v, g, hf, _, _, rfl⟩
  rotate_left
  · rw [some_has hf]
    simp only [Qb_neqP (P := Try.prog) (t := 76) (e := 73) ptr76, Option.isSome_some, if_true, go_sem]
    exact .ret (did_same h (V3.bel.trans b4))
  rw [none_has hf]
  have V4 := V3.later (b4.trans (Bel.refl w4).drew)
  have h4 := h.bel V4.bel
  simp only [Qb_neqP (P := Try.prog) (t := 76) (e := 73) ptr76, Option.isSome_none, Bool.false_eq_true, if_false, fa70x0, fa70x1, fa70x2, fa68x2, h4.l2, h4.l3, h4.l4, go_sem]
  by_cases hl : lim ≤ (L.length : Int)
  · rw [decide_eq_true hl, if_pos hl]
    simp only [go_sem]
    exact .ret (did_same h V4.bel)
  rw [decide_eq_false hl, if_neg hl]
  have s0 := hS.s0
  have s1 := hS.s1
  have l1 := hS.l1
  have o4 : w4.drew.heap[w.heap.size]? = some (.cells (keyM k).cs.toArray 37) := V4.at_ 0 _ rfl
  have sz4 : w.heap.size < w4.drew.heap.size := (Array.getElem?_eq_some_iff.1 o4).1
  have wsz : w.heap.size ≤ w4.drew.heap.size := V4.bel.size
  have hB4 := V4.bel
  generalize w4.drew = w5 at h4 o4 sz4 wsz hB4
  have c5 := h4.cells
  have la := h.lt a (.inl rfl)
  rw [wrap_i64 (n := seq + 1) (by omega) (by omega)]
  simp only [tset4 c5, go_sem]
  have c6 := setRow_heap w5 a _ #[rv, hV, .int .i64 (L.length : Int), .int .i64 lim, .int .i64 (seq + 1)] 70 _ c5
  have g6 : Chg (fun k => k = a) w5 (w5.setRow a #[rv, hV, .int .i64 (L.length : Int), .int .i64 lim, .int .i64 (seq + 1)]) := setRow_chg _ _
  generalize w5.setRow a #[rv, hV, .int .i64 (L.length : Int), .int .i64 lim, .int .i64 (seq + 1)] = w6 at c6 g6
  simp only [tl2 c6, go_sem]
  rw [wrap_i64 (n := (L.length : Int) + 1) (by omega) (by omega)]
  simp only [tset2 c6, go_sem]
  have c7 := setRow_heap w6 a _ #[rv, hV, .int .i64 ((L.length : Int) + 1), .int .i64 lim, .int .i64 (seq + 1)] 70 _ c6
  have g7 : Chg (fun k => k = a) w5 (w6.setRow a #[rv, hV, .int .i64 ((L.length : Int) + 1), .int .i64 lim, .int .i64 (seq + 1)]).drew := (g6.trans (setRow_chg _ _) fun _ _ h => h).thenBel (Bel.refl _).drew
  have c7 : (w6.setRow a #[rv, hV, .int .i64 ((L.length : Int) + 1), .int .i64 lim, .int .i64 (seq + 1)]).drew.heap[a]? = _ := c7
  generalize (w6.setRow a #[rv, hV, .int .i64 ((L.length : Int) + 1), .int .i64 lim, .int .i64 (seq + 1)]).drew = w7 at c7 g7
  have nq : ¬ w.heap.size = a := by omega
  have o7 := g7.at_ o4 nq
  simp only [load37 o7, go_sem]
  refine (k34r (k := keyM k) c7 h.row).bind ?_
  rintro ⟨_, w8⟩ ⟨b8, R, hR, e8⟩
  simp only at e8 b8
  subst e8
  have b8 := b8.trans (Bel.refl w8).drew
  have g8 := g7.thenBel b8
  have o8 := b8.at_ o7
  have c8 := b8.at_ c7
  simp only [go_sem]
  generalize w8.drew = w9 at b8 g8 o8 c8
  have hj := (bk_eq (keyM k)).2
  obtain ⟨v, hv, ho⟩ := h4.own (bk (keyM k)) hj
  have hba := fun q => h4.ba (bk (keyM k)) v q
  have r9 := g8.owns h4.rows fun q hq e => h4.ra (e ▸ hq)
  have ho9 := g8.owns ho fun q hq e => (hba q hv hq).1 e
  have ld9 : Qload Try.prog 62 (.pointer (some ⟨R, bk (keyM k), none⟩)) w9 = some v := Qload_cell one62 (by
    have := r9.cells hR (bk (keyM k)) v hv
    rwa [add_0] at this)
  have bl := Bj_len L (bk (keyM k))
  have ba : Bel w9 (w9.alloc (.cells (⟨keyM k, id, till, seq + 1⟩ : Rw).cs.toArray 73)) := (Bel.refl _).alloc _
  have ra := r9
  obtain ⟨v', w10, e10, o10, g10, n10⟩ := app62 (later_bel ho9 ba) (litView ⟨keyM k, id, till, seq + 1⟩ w9) (by simp; omega)
  have ld10 : Qload Try.prog 62 (.pointer (some ⟨R, bk (keyM k), none⟩)) (w9.alloc (.cells (⟨keyM k, id, till, seq + 1⟩ : Rw).cs.toArray 73)) = some v := Qload_cell one62 (by
    have := r9.cells hR (bk (keyM k)) v hv
    rw [add_0] at this
    exact ba.cell_some this)
  have b73 := build73 ⟨keyM k, id, till, seq + 1⟩ w9
  simp only at b73
  have cg := Chg.of_grown g10
  have r10 := cg.owns (later_bel r9 ba) fun q hq e => (hba q hv e.symm).2 hq
  obtain ⟨ti, hti, hts⟩ := inf62
  have hs := owns_slice o10
  obtain ⟨R', hR', hix, w11, e11, o11, c11⟩ := own_set1 (t := 65) und65 hti hts r10 (j := bk (keyM k)) hj (u := v') (by obtain ⟨x, n, c, rfl⟩ := hs; rfl) (by obtain ⟨x, n, c, rfl⟩ := hs; rfl)
  rw [hR] at hR'
  injection hR' with hR'
  subst hR'
  simp only [ld9, load37 o8, tl3 c8, b73, lit62, e10, e11, ld10, eq_self, and_self, go_sem]
  have na : ∀ q, v.ownBlock = some q → q ≠ a := fun q hq => (hba q hv hq).1
  have nR : ∀ q, v.ownBlock = some q → q ≠ R := fun q hq e => (hba q hv hq).2 (e ▸ hR)
  have aR : a ≠ R := fun e => h4.ra (e ▸ hR)
  have c10 : w10.heap[a]? = some (.cells #[rv, hV, .int .i64 ((L.length : Int) + 1), .int .i64 lim, .int .i64 (seq + 1)] 70 (0, 0)) := cg.at_ (ba.at_ c8) fun e => na a e.symm rfl
  have c12 : w11.heap[a]? = some (.cells #[rv, hV, .int .i64 ((L.length : Int) + 1), .int .i64 lim, .int .i64 (seq + 1)] 70 (0, 0)) := c11.at_ c10 aR
  have hcc : Chg (fun q => q = a ∨ rv.ownBlock = some q ∨ v.ownBlock = some q) w5 w11 :=
    (((g8.mono (T := fun q => q = a ∨ rv.ownBlock = some q ∨ v.ownBlock = some q) fun q _ hq => .inl hq).thenBel ba).trans (cg.mono fun q _ hq => .inr (.inr hq.symm)) fun _ _ h => h).trans (c11.mono fun q _ hq => .inr (.inl (hq ▸ hR))) fun _ _ h => h
  have nv' : ∀ q, v'.ownBlock = some q → q ≠ R := fun q hq e => by
    rcases n10 q hq with h1 | h1
    · exact nR q h1 e
    · have l2 := (World.ownsRow.lt r9 R hR).2
      have := ba.size
      omega
  obtain ⟨T, hfoot⟩ := h4.turn (j := bk (keyM k)) (L' := L ++ [⟨keyM k, id, till, seq + 1⟩]) (seq' := seq + 1) hj hv hcc (by rw [c12]; simp) o11
    (by
      have e : Bj (L ++ [(⟨keyM k, id, till, seq + 1⟩ : Rw)]) (bk (keyM k)) = Bj L (bk (keyM k)) ++ [⟨keyM k, id, till, seq + 1⟩] := Bj_add (x := ⟨keyM k, id, till, seq + 1⟩)
      rw [e]
      exact c11.owns o10 fun q hq e => nv' q hq e)
    (fun q hq => (n10 q hq).imp (fun h => h) fun h1 => by have := ba.size; have := g8.size; omega)
    (fun i _ hne => Bj_add_ne (x := ⟨keyM k, id, till, seq + 1⟩) hne)
  refine .ret ⟨rfl, ?_, _, T, fun q hq => (hfoot q hq).imp (fun h => h) fun h1 => by omega⟩
  refine hB4.thenChg (hcc.mono fun q _ hq => ?_)
  rcases hq with hq | hq | hq
  · exact .inl hq
  · exact .inr (.inl hq)
  · exact .inr (.inr ⟨_, v, hv, hq⟩)

/-! ## Told -/

def getM (L : List Rw) (k : Tup) : Int × Int × Bool := match L.find? (isK (keyM k)) with | none => (0, 0, false) | some x => (x.value, x.till, true)
theorem find_Bj {L : List Rw} {k : Tup} : (Bj L (bk k)).find? (isK k) = L.find? (isK k) := by
  unfold Bj
  rw [List.find?_filter]
  congr 1
  funext x
  by_cases c : x.key = k
  · simp [isK, c]
  · simp [isK, c]

theorem k15 {w : World} {a : Nat} {rv : Value} {bv : List Value} {lim seq : Int} {L : List Rw} {k : Tup} (h : Tb w a rv bv lim seq L) (hL : L.length ≤ 100000) :
    Brings (Xcall Try.prog (Value.func (Fn.func 15) #[] #[]) #[.pointer (some ⟨a, 0, none⟩), k.v] w) (fun r => r.1 = .tuple #[.int .i64 (getM L k).1, .int .i64 (getM L k).2.1, .bool (getM L k).2.2] ∧ Bel w r.2) := by
  refine e15 ?_
  unfold s15
  have A := k.new w
  have hb : Bel w (w.alloc (.cells k.cs.toArray 37)) := (Bel.refl w).alloc _
  rw [k.box]
  have bd := hb.drew
  have A1 := A.bel (Bel.refl _).drew
  simp only [go_sem, Qb_eqlP (P := Try.prog) (t := 25) (e := 70) ptr25, Option.isNone_some, fa70x0, Tup.all A1]
  generalize (w.alloc (.cells k.cs.toArray 37)).drew = w1 at bd
  refine k32.bind ?_
  rintro ⟨_, w2⟩ ⟨e2, b2⟩
  simp only at e2 b2
  subst e2
  have h2 := h.bel (bd.trans b2)
  refine (k31 (k := keyM k) h2 hL).bind ?_
  rintro ⟨p, w3⟩ ⟨b3, hf⟩
  simp only at b3 hf
  have B := (bd.trans b2).trans b3
  unfold getM
  rw [← find_Bj]
  rcases hf with ⟨hf, rfl⟩ | ⟨i, v, g, hf, hv, hg, rfl⟩
  · have : (Bj L (bk (keyM k))).find? (isK (keyM k)) = none := by
      rw [List.find?_eq_none]
      intro x hx
      rw [List.findIdx?_eq_none_iff] at hf
      rw [hf x hx]; decide
    rw [this]
    simp only [go_sem, Qb_eqlP (P := Try.prog) (t := 76) (e := 73) ptr76, Option.isNone_none]
    exact .ret ⟨rfl, B⟩
  · obtain ⟨hi, hp, hno⟩ := List.findIdx?_eq_some_iff_getElem.1 hf
    have : (Bj L (bk (keyM k))).find? (isK (keyM k)) = some (Bj L (bk (keyM k)))[i] := by
      refine find_first (i := i) (List.getElem?_eq_getElem hi) hp fun y hy => ?_
      obtain ⟨j, hj, rfl⟩ := List.mem_take_iff_getElem.1 hy
      simpa using hno j (by omega)
    rw [this]
    have b4 := B.trans (Bel.refl w3).drew
    have h4 := h.bel b4
    obtain ⟨v2, hv2, ho⟩ := h4.own _ (bk_eq (keyM k)).2
    rw [hv] at hv2
    injection hv2 with hv2
    subst hv2
    have hc := owns_cells (k := i) ho hg
    rw [flat_at _ i _ (Rw.lens _) (List.getElem?_eq_getElem hi)] at hc
    simp only [go_sem, Qb_eqlP (P := Try.prog) (t := 76) (e := 73) ptr76, Option.isNone_some, Rw.f1 hc, Rw.f2 hc]
    exact .ret ⟨rfl, b4⟩

theorem k16 {w : World} {a : Nat} {rv : Value} {bv : List Value} {lim seq : Int} {L : List Rw} (h : Tb w a rv bv lim seq L) : Brings (Xcall Try.prog (Value.func (Fn.func 16) #[] #[]) #[.pointer (some ⟨a, 0, none⟩)] w) (fun r => r = (.int .i64 (L.length : Int), w)) := by
  refine e16 ?_
  unfold s16
  simp only [go_sem, Qb_eqlP (P := Try.prog) (t := 25) (e := 70) ptr25, Option.isNone_some, fa70x0, fa68x2, h.l2]
  exact .ret rfl

end Go.Proofs.Ytcibkmahibnjeaa
