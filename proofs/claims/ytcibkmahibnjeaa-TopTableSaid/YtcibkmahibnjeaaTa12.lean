/- The reference's table. -/
import Derived.Test.YtcibkmahibnjeaaTa11
namespace Go.Proofs.Ytcibkmahibnjeaa
open Go Go.Ev Go.RowKit
open Go.Proofs

/-- A field of an element is written to. -/
theorem own_fldR {w : World} {v : Value} {l : List Rw} {i d g : Nat} {x y : Rw} {n : Int} (ho : w.ownsRow 0 99 8 v l.length (l.flatMap Rw.cs)) (hg : v.ownBlock = some g) (hx : l[i]? = some x) (hd : d < 8) (hy : y.cs = x.cs.set d (.int .i64 n)) :
    ∃ w', Xstore Try.prog 3 (.pointer (some ⟨g, i * 8 + d, none⟩)) (.int .i64 n) w = some (undef, w') ∧ w'.ownsRow 0 99 8 v (l.set i y).length ((l.set i y).flatMap Rw.cs) ∧ Chg (fun k => k = g) w w' := by
  have hi := (List.getElem?_eq_some_iff.1 hx).1
  obtain ⟨hl, ⟨rfl, h0⟩ | ⟨g', cap, cur, rfl, hb, hcur, hn, hcap, hsz, htk⟩⟩ := ho
  · omega
  · simp only [Value.ownBlock, Option.some.injEq] at hg
    subst hg
    obtain ⟨ti, hti, hts⟩ := inf3
    have hfit : i * 8 + d + 1 ≤ cur.size := by rw [hsz]; have : (i + 1) * 8 ≤ cap * 8 := Nat.mul_le_mul_right _ (by omega); omega
    have e := Xstore_row (P := Try.prog) (t := 3) (v := .int .i64 n) hti (by rw [hts]; rfl) hcur (o := i * 8 + d) (by rw [hts]; exact hfit) (by intro u hu; simp [Value.cells] at hu; subst hu; rfl)
    refine ⟨_, e, ⟨?_, .inr ⟨g', cap, _, by rw [List.length_set], hb, setRow_heap w g' cur _ 99 _ hcur, by rw [List.length_set]; exact hn, hcap, ?_, ?_⟩⟩, setRow_chg _ _⟩
    · rw [flat_len (size := 8) _ (Rw.lens _)]
    · simp only [hts, Value.cells, List.size_toArray, List.length_append, List.length_take, List.length_drop, Array.length_toList]
      simp
      omega
    · have hjc : i * 8 + d < cur.toList.length := by rw [Array.length_toList]; omega
      have e1 : cur.toList.take (i * 8 + d) ++ (Value.int .i64 n).cells.toList ++ cur.toList.drop (i * 8 + d + ti.size) = cur.toList.set (i * 8 + d) (.int .i64 n) := by
        rw [hts, List.set_eq_take_append_cons_drop, if_pos hjc]
        simp [Value.cells]
      rw [show ((cur.toList.take (i * 8 + d) ++ (Value.int .i64 n).cells.toList ++ cur.toList.drop (i * 8 + d + ti.size)).toArray).toList = cur.toList.take (i * 8 + d) ++ (Value.int .i64 n).cells.toList ++ cur.toList.drop (i * 8 + d + ti.size) from rfl, e1, List.take_set, List.length_set, htk, flat_set l i x y d _ hx hd hy]


abbrev OwnR (w : World) (v : Value) (l : List Rw) : Prop := w.ownsRow 0 99 8 v l.length (l.flatMap Rw.cs)
/-- The document's table. -/
structure Rt (w : World) (b : Nat) (sv : Value) (lim seq : Int) (L : List Rw) : Prop where
  cells : w.heap[b]? = some (.cells #[sv, .int .i64 lim, .int .i64 seq] 87 (0, 0))
  own : OwnR w sv L
  apart : ∀ q, sv.ownBlock = some q → q ≠ b
def FootR (b : Nat) (sv : Value) (k : Nat) : Prop := k = b ∨ sv.ownBlock = some k

section rt
variable {w w' : World} {b : Nat} {sv : Value} {lim seq : Int} {L : List Rw}
theorem Rt.chg {S : Nat → Prop} (h : Rt w b sv lim seq L) (hc : Chg S w w') (hs : ∀ k, FootR b sv k → ¬ S k) : Rt w' b sv lim seq L := ⟨hc.at_ h.cells (hs b (.inl rfl)), hc.owns h.own fun q hq => hs q (.inr hq), h.apart⟩
theorem Rt.bel (h : Rt w b sv lim seq L) (hb : Bel w w') : Rt w' b sv lim seq L := h.chg (.of_bel hb fun _ => False) fun _ _ f => f
theorem Rt.lt (h : Rt w b sv lim seq L) : ∀ k, FootR b sv k → k < w.heap.size := fun k hk => by
  rcases hk with rfl | hk
  · exact (Array.getElem?_eq_some_iff.1 h.cells).1
  · exact (World.ownsRow.lt h.own k hk).2
theorem one85 : one Try.prog 85 = true := by kernel_rfl
theorem fa87x0 (g : Nat) : QfieldAddr Try.prog 87 (.pointer (some ⟨g, 0, none⟩)) 0 = some (.pointer (some ⟨g, 0, none⟩)) := by kernel_rfl
theorem fa87x1 (g : Nat) : QfieldAddr Try.prog 87 (.pointer (some ⟨g, 0, none⟩)) 1 = some (.pointer (some ⟨g, 1, none⟩)) := by kernel_rfl
theorem fa87x2 (g : Nat) : QfieldAddr Try.prog 87 (.pointer (some ⟨g, 0, none⟩)) 2 = some (.pointer (some ⟨g, 2, none⟩)) := by kernel_rfl
theorem Rt.l0 (h : Rt w b sv lim seq L) : Qload Try.prog 85 (.pointer (some ⟨b, 0, none⟩)) w = some sv := Qload_cell one85 (cell_at h.cells rfl)
theorem Rt.l1 (h : Rt w b sv lim seq L) : Qload Try.prog 3 (.pointer (some ⟨b, 1, none⟩)) w = some (.int .i64 lim) := Qload_cell one3 (cell_at h.cells rfl)
theorem Rt.l2 (h : Rt w b sv lim seq L) : Qload Try.prog 3 (.pointer (some ⟨b, 2, none⟩)) w = some (.int .i64 seq) := Qload_cell one3 (cell_at h.cells rfl)
theorem Rt.view (h : Rt w b sv lim seq L) : View Rw.cs 8 w sv L := View.of_owns h.own (Rw.lens _)
theorem Rt.len (h : Rt w b sv lim seq L) (w2 : World) : Qlen Try.prog #[85] 3 #[sv] w2 = some (.int .i64 (L.length : Int)) := h.view.len Ref.und85 w2
theorem inf85 : ∃ i, Try.prog.info? 85 = some i ∧ i.size = 1 := ⟨(Try.prog.info? 85).get (by kernel_rfl), by kernel_rfl, by kernel_rfl⟩
theorem rset0 {w : World} {b : Nat} {c0 c1 c2 v : Value} (hg : w.heap[b]? = some (.cells #[c0, c1, c2] 87 (0, 0))) (hv : ∃ x n c, v = .slice x n c) : Xstore Try.prog 85 (.pointer (some ⟨b, 0, none⟩)) v w = some (undef, w.setRow b #[v, c1, c2]) := by
  obtain ⟨x, n, c, rfl⟩ := hv
  obtain ⟨i, hi, hs⟩ := inf85
  rw [Xstore_row (P := Try.prog) (t := 85) (v := .slice x n c) hi (by rw [hs]; rfl) hg (o := 0) (by rw [hs]; simp) (by intro u hu; simp [Value.cells] at hu; subst hu; rfl), hs]
  rfl
theorem rset2 {w : World} {b : Nat} {c0 c1 c2 : Value} (hg : w.heap[b]? = some (.cells #[c0, c1, c2] 87 (0, 0))) (n : Int) : Xstore Try.prog 3 (.pointer (some ⟨b, 2, none⟩)) (.int .i64 n) w = some (undef, w.setRow b #[c0, c1, .int .i64 n]) := by
  obtain ⟨i, hi, hs⟩ := inf3
  rw [Xstore_row (P := Try.prog) (t := 3) (v := .int .i64 n) hi (by rw [hs]; rfl) hg (o := 2) (by rw [hs]; simp) (by intro u hu; simp [Value.cells] at hu; subst hu; rfl), hs]
  rfl
end rt

/-- A row laid since, of the document's. -/
def FrR (w0 w : World) (v : Value) (l : List Rw) : Prop := Bel w0 w ∧ OwnR w v l ∧ ∀ q, v.ownBlock = some q → w0.heap.size ≤ q
theorem frR_nil (w : World) : FrR w w (.slice none 0 0) [] := ⟨Bel.refl _, World.ownsRow_nil w 0 99 8, fun q hq => by cases hq⟩
theorem FrR.later {w0 w w' : World} {v : Value} {l : List Rw} (h : FrR w0 w v l) (hb : Bel w w') : FrR w0 w' v l := ⟨h.1.trans hb, later_bel h.2.1 hb, h.2.2⟩
theorem FrR.app {w0 w : World} {v s : Value} {l m : List Rw} (h : FrR w0 w v l) (hv : View Rw.cs 8 w s m) (hl : l.length + m.length ≤ 900000) :
    ∃ v' w', Xbi Try.prog .append #[85, 85] 85 #[v, s] w = some (v', w') ∧ FrR w0 w' v' (l ++ m) ∧ Bel w0 w' := by
  obtain ⟨v', w2, e2, o2, g2, n2⟩ := Ref.app85 h.2.1 hv (by omega)
  have cg := Chg.of_grown g2
  have bb : Bel w0 w2 := (h.1.thenChg cg).bel fun k hk e => by have := h.2.2 k e.symm; omega
  exact ⟨v', w2, e2, ⟨bb, o2, fun q hq => by
    rcases n2 q hq with h1 | h1
    · exact h.2.2 q h1
    · have := h.1.size; omega⟩, bb⟩
theorem FrR.push {w0 w : World} {v : Value} {l : List Rw} (h : FrR w0 w v l) (x : Rw) (hl : l.length ≤ 800000) :
    ∃ s w1, XbuildSlice Try.prog 85 1 #[(0, x.v)] w = some (s, w1) ∧ Bel w w1 ∧ ∃ v' w', Xbi Try.prog .append #[85, 85] 85 #[v, s] w1 = some (v', w') ∧ FrR w0 w' v' (l ++ [x]) ∧ Chg (fun q => v.ownBlock = some q) w w' := by
  have ba : Bel w (w.alloc (.cells x.cs.toArray 99)) := (Bel.refl _).alloc _
  obtain ⟨v', w2, e2, o2, g2, n2⟩ := Ref.app85 (later_bel h.2.1 ba) (Ref.litView x w) (by simp; omega)
  have cg := Chg.of_grown g2
  have bb : Bel w0 w2 := ((h.1.trans ba).thenChg cg).bel fun k hk e => by have := h.2.2 k e.symm; omega
  exact ⟨_, _, Ref.lit85 x w, ba, v', w2, e2, ⟨bb, o2, fun q hq => by
    rcases n2 q hq with h1 | h1
    · exact h.2.2 q h1
    · have := (h.1.trans ba).size; omega⟩, ba.thenChg (cg.mono fun q _ hq => hq.symm)⟩

theorem k56 {w : World} {b : Nat} {sv : Value} {lim seq : Int} {L : List Rw} {k : Tup} (h : Rt w b sv lim seq L) (hL : L.length ≤ 100000) : Brings (Xcall Try.prog (Value.func (Fn.func 56) #[] #[]) #[.pointer (some ⟨b, 0, none⟩), k.v] w)
    (fun r => r.1 = .int .i64 (idxM (isK (keyM k)) L) ∧ Bel w r.2) := by
  refine e56 ?_
  unfold s56
  have A := k.new w
  have hb0 : Bel w (w.alloc (.cells k.cs.toArray 37)) := (Bel.refl w).alloc _
  rw [k.box]
  simp only [go_sem]
  generalize w.alloc (.cells k.cs.toArray 37) = w1 at A hb0
  generalize w.heap.size = q at A
  refine Brings.loop (fun m xs w' => ∃ i : Nat, xs = [.pointer (some ⟨b, 0, none⟩), .pointer (some ⟨q, 0, none⟩), .int .i64 0, .int .i64 (i : Int)] ∧ i ≤ L.length ∧ m = L.length - i ∧ Bel w1 w' ∧ ∀ y ∈ L.take i, isK (keyM k) y = false) ?_ L.length _ _
    ⟨0, rfl, by omega, by omega, Bel.refl _, by simp⟩
  rintro m xs w' ⟨i, rfl, hi, hm, hb, hn⟩
  have h' := (h.bel hb0).bel hb
  simp only [s56B0, go_sem, Qb_neqP (P := Try.prog) (t := 26) (e := 87) ptr26, Option.isSome_some, fa87x0, h'.l0, h'.len]
  refine .cond (fun hlt => ?_) (fun hlt => ?_)
  · have hlt : i < L.length := by
      have : (i : Int) < L.length := by simpa using hlt
      omega
    have bd : Bel w' w'.drew := (Bel.refl _).drew
    have hd := h'.bel bd
    obtain ⟨x, g, o, hx, _, hix, hc⟩ := Ref.getR hd.view (n := i) (by omega) (by omega)
    rw [Int.toNat_natCast] at hx
    have Ad := A.bel (hb.trans bd)
    simp only [fa87x0, hd.l0, hix, fa99x0, Tup.all (Rw.in0 hc), Tup.all Ad, go_sem]
    refine k18.bind ?_
    rintro ⟨_, w3⟩ ⟨e3, b3⟩
    simp only at e3 b3
    subst e3
    have h3 := hd.bel b3
    simp only [Tup.eql, h3.l0, hd.l0, hix, Tup.all (Rw.in0 hc), Tup.all (Rw.in0 (hc.bel b3)), eq_self, and_self, go_sem]
    have B := (hb.trans bd).trans b3
    refine .cond (fun he => ?_) (fun he => ?_)
    · have he : x.key = keyM k := by simpa using he
      refine .ret (.inr ⟨by simp, .ret ⟨?_, hb0.trans B⟩⟩)
      unfold idxM
      rw [find_at hx (by simpa [isK] using he) hn]
    · have he : ¬ x.key = keyM k := by simpa using he
      rw [wrap_i64 (n := (i : Int) + 1) (by omega) (by omega)]
      exact .ret (.inl ⟨rfl, L.length - (i + 1), by omega, i + 1, rfl, by omega, rfl, B, take_none hx (by simpa [isK] using he) hn⟩)
  · have : i = L.length := by
      have : ¬ (i : Int) < L.length := by simpa using hlt
      omega
    subst this
    rw [List.take_length] at hn
    refine .ret (.inr ⟨by simp, .ret ⟨?_, hb0.trans hb⟩⟩)
    unfold idxM
    rw [List.findIdx?_eq_none_iff.2 hn]

theorem idx_none {L : List Rw} {k : Tup} (h : hasK L k = false) : idxM (isK k) L = -1 := by
  unfold idxM
  unfold hasK at h
  rw [List.any_eq_false] at h
  rw [List.findIdx?_eq_none_iff.2 fun x hx => by simpa using h x hx]
theorem idx_some {L : List Rw} {k : Tup} (h : hasK L k = true) : ∃ (i : Nat) (x : Rw), idxM (isK k) L = (i : Int) ∧ L[i]? = some x ∧ x.key = k ∧ ∀ y ∈ L.take i, isK k y = false := by
  unfold hasK at h
  rw [List.any_eq_true] at h
  obtain ⟨y, hy, hk⟩ := h
  cases e : L.findIdx? (isK k) with
  | none =>
    rw [List.findIdx?_eq_none_iff] at e
    rw [e y hy] at hk
    cases hk
  | some i =>
    obtain ⟨hi, hp, hn⟩ := List.findIdx?_eq_some_iff_getElem.1 e
    refine ⟨i, L[i], by unfold idxM; rw [e], List.getElem?_eq_getElem hi, by simpa [isK] using hp, fun z hz => ?_⟩
    obtain ⟨j, hj, rfl⟩ := List.mem_take_iff_getElem.1 hz
    simpa using hn j (by omega)

/-- What a deed brings, of the document's. -/
def DidR (w : World) (b : Nat) (sv : Value) (lim : Int) (t : Int × Int × List Rw) (r : Value × World) : Prop :=
  r.1 = .int .i64 t.1 ∧ Chg (FootR b sv) w r.2 ∧ ∃ sv', Rt r.2 b sv' lim t.2.1 t.2.2 ∧ ∀ k, FootR b sv' k → FootR b sv k ∨ w.heap.size ≤ k
theorem didR_same {w w' : World} {b : Nat} {sv : Value} {lim seq : Int} {L : List Rw} {e : Int} (h : Rt w b sv lim seq L) (hb : Bel w w') : DidR w b sv lim (e, seq, L) (.int .i64 e, w') :=
  ⟨rfl, .of_bel hb _, sv, h.bel hb, fun k hk => .inl hk⟩

theorem may_lo {till : Int} (h : till < 0) : mayT till = false := by
  unfold mayT
  have : decide (0 ≤ till) = false := by rw [decide_eq_false_iff_not]; omega
  rw [this]; rfl
theorem may_hi {till : Int} (h : 1099511627776 < till) : mayT till = false := by
  unfold mayT
  have : decide (till ≤ 1099511627776) = false := by rw [decide_eq_false_iff_not]; omega
  rw [this, Bool.and_false]
theorem may_in {till : Int} (h0 : ¬ till < 0) (h1 : ¬ 1099511627776 < till) : mayT till = true := by
  unfold mayT
  rw [decide_eq_true (show 0 ≤ till by omega), decide_eq_true (show till ≤ 1099511627776 by omega)]; rfl

theorem build99 (x : Rw) (w : World) : Qbuild Try.prog 99 #[(0, x.key.v), (1, .int .i64 x.value), (2, .int .i64 x.till), (3, .int .i64 x.seq)] w = some x.v := by kernel_rfl

theorem k43 {w : World} {b : Nat} {sv : Value} {lim seq id till : Int} {L : List Rw} {k : Tup} (h : Rt w b sv lim seq L) (hS : Small seq L) :
    Brings (Xcall Try.prog (Value.func (Fn.func 43) #[] #[]) #[.pointer (some ⟨b, 0, none⟩), k.v, .int .i64 id, .int .i64 till] w) (DidR w b sv lim (putM lim seq L k id till)) := by
  refine e43 ?_
  unfold s43 putM
  have A := k.new w
  have hb : Bel w (w.alloc (.cells k.cs.toArray 37)) := (Bel.refl w).alloc _
  rw [k.box]
  simp only [go_sem, Qb_eqlP (P := Try.prog) (t := 26) (e := 87) ptr26, Option.isNone_some, Tup.all A]
  have la := h.lt
  have nq : ∀ q, FootR b sv q → q ≠ w.heap.size := fun q hq => by have := la q hq; omega
  generalize w.alloc (.cells k.cs.toArray 37) = w1 at A hb
  generalize w.heap.size = q0 at A nq
  by_cases c1 : till < 0
  · rw [may_lo c1]
    simp only [c1, decide_true, if_true, go_sem]
    exact .ret (didR_same h hb)
  by_cases c2 : 1099511627776 < till
  · rw [may_hi c2]
    simp only [c1, c2, decide_true, decide_false, if_true, go_sem]
    exact .ret (didR_same h hb)
  rw [may_in c1 c2]
  simp only [c1, c2, decide_false, Bool.true_eq_false, if_false, go_sem]
  refine (k56 (h.bel hb) hS.l1).bind ?_
  rintro ⟨_, w2⟩ ⟨e2, b2⟩
  simp only at e2 b2
  subst e2
  have B2 := hb.trans b2
  cases hk : hasK L (keyM k) with
  | true =>
    obtain ⟨i, x, e, _, _, _⟩ := idx_some hk
    have d : decide ((0 : Int) ≤ (i : Int)) = true := by rw [decide_eq_true_iff]; omega
    simp only [e, d, if_true, go_sem]
    exact .ret (didR_same h B2)
  | false =>
  simp only [idx_none hk, show decide ((0 : Int) ≤ -1) = false from rfl, Bool.false_eq_true, if_false, go_sem]
  have bd : Bel w2 w2.drew := (Bel.refl _).drew
  have B3 := B2.trans bd
  have h3 := h.bel B3
  have A3 := A.bel (b2.trans bd)
  simp only [fa87x0, fa87x1, fa87x2, h3.l0, h3.len, h3.l1, h3.l2, go_sem]
  by_cases hl : lim ≤ (L.length : Int)
  · rw [decide_eq_true hl, if_pos hl]
    simp only [go_sem]
    exact .ret (didR_same h B3)
  rw [decide_eq_false hl, if_neg hl]
  have s0 := hS.s0
  have s1 := hS.s1
  have l1 := hS.l1
  generalize w2.drew = w3 at B3 h3 A3
  rw [wrap_i64 (n := seq + 1) (by omega) (by omega)]
  simp only [rset2 h3.cells, go_sem]
  have o4 := setRow_heap w3 b _ #[sv, .int .i64 lim, .int .i64 (seq + 1)] 87 _ h3.cells
  have c4 : Chg (fun k => k = b) w3 (w3.setRow b #[sv, .int .i64 lim, .int .i64 (seq + 1)]).drew := (setRow_chg _ _).thenBel (Bel.refl _).drew
  have o4 : (w3.setRow b #[sv, .int .i64 lim, .int .i64 (seq + 1)]).drew.heap[b]? = some (.cells #[sv, .int .i64 lim, .int .i64 (seq + 1)] 87 (0, 0)) := o4
  generalize (w3.setRow b #[sv, .int .i64 lim, .int .i64 (seq + 1)]).drew = w4 at o4 c4
  have A4 := A3.chg c4 (fun e => nq b (.inl rfl) e.symm)
  have ld : ∀ {w' : World}, w'.heap[b]? = some (.cells #[sv, .int .i64 lim, .int .i64 (seq + 1)] 87 (0, 0)) → Qload Try.prog 85 (.pointer (some ⟨b, 0, none⟩)) w' = some sv ∧ Qload Try.prog 3 (.pointer (some ⟨b, 2, none⟩)) w' = some (.int .i64 (seq + 1)) := fun ho => ⟨Qload_cell one85 (cell_at ho rfl), Qload_cell one3 (cell_at ho rfl)⟩
  simp only [(ld o4).1, Tup.all A4, go_sem]
  refine k18.bind ?_
  rintro ⟨_, w5⟩ ⟨e5, b5⟩
  simp only at e5 b5
  subst e5
  have o5 := b5.at_ o4
  have ba : Bel w5 (w5.alloc (.cells (⟨keyM k, id, till, seq + 1⟩ : Rw).cs.toArray 99)) := (Bel.refl _).alloc _
  have own5 : OwnR w5 sv L := (c4.thenBel b5).owns h3.own fun q hq e => h3.apart q hq e
  obtain ⟨v', w6, e6, o6, g6, n6⟩ := Ref.app85 (later_bel own5 ba) (Ref.litView ⟨keyM k, id, till, seq + 1⟩ w5) (by simp; omega)
  have cg := Chg.of_grown g6
  have o6b : w6.heap[b]? = some (.cells #[sv, .int .i64 lim, .int .i64 (seq + 1)] 87 (0, 0)) := cg.at_ (ba.at_ o5) fun e => h3.apart b e.symm rfl
  have b99 := build99 ⟨keyM k, id, till, seq + 1⟩ w5
  simp only at b99
  simp only [(ld o5).1, (ld o5).2, (ld (ba.at_ o5)).1, (ld (ba.at_ o5)).2, (ld o4).1, (ld o4).2, b99, Ref.lit85, e6, rset0 o6b (Ref.owns_slice o6), eq_self, and_self, go_sem]
  have lb := la b (.inl rfl)
  have sz3 := B3.size
  have sz5 : w3.heap.size ≤ w5.heap.size := Nat.le_trans c4.size b5.size
  have nb : ∀ q, v'.ownBlock = some q → q ≠ b := fun q hq => by
    rcases n6 q hq with h1 | h1
    · exact h.apart q h1
    · have := ba.size; omega
  refine .ret ⟨rfl, ?_, v', ⟨setRow_heap w6 b _ _ 87 _ o6b, (setRow_chg _ _).owns o6 nb, nb⟩, fun q hq => ?_⟩
  · have u1 : Chg (FootR b sv) w3 (w5.alloc (.cells (⟨keyM k, id, till, seq + 1⟩ : Rw).cs.toArray 99)) := ((c4.mono (T := FootR b sv) fun q _ hq => .inl hq).thenBel b5).thenBel ba
    have u2 : Chg (FootR b sv) w3 w6 := u1.trans (cg.mono (T := FootR b sv) fun q _ hq => .inr hq.symm) fun _ _ h => h
    exact B3.thenChg (u2.trans ((setRow_chg _ _).mono (T := FootR b sv) fun q _ hq => .inl hq) fun _ _ h => h)
  · rcases hq with hq | hq
    · exact .inl (.inl hq)
    · rcases n6 q hq with h1 | h1
      · exact .inl (.inr h1)
      · have := ba.size; exact .inr (by omega)

theorem k44 {w : World} {b : Nat} {sv : Value} {lim seq till : Int} {L : List Rw} {k : Tup} (h : Rt w b sv lim seq L) (hS : Small seq L) (hA : Apart seq L) :
    Brings (Xcall Try.prog (Value.func (Fn.func 44) #[] #[]) #[.pointer (some ⟨b, 0, none⟩), k.v, .int .i64 till] w) (DidR w b sv lim (moveM seq L k till)) := by
  refine e44 ?_
  unfold s44 moveM
  have A := k.new w
  have hb : Bel w (w.alloc (.cells k.cs.toArray 37)) := (Bel.refl w).alloc _
  rw [k.box]
  simp only [go_sem, Qb_eqlP (P := Try.prog) (t := 26) (e := 87) ptr26, Option.isNone_some, Tup.all A]
  have la := h.lt
  have nq : ∀ q, FootR b sv q → q ≠ w.heap.size := fun q hq => by have := la q hq; omega
  generalize w.alloc (.cells k.cs.toArray 37) = w1 at A hb
  generalize w.heap.size = q0 at A nq
  by_cases c1 : till < 0
  · rw [may_lo c1]
    simp only [c1, decide_true, if_true, go_sem]
    exact .ret (didR_same h hb)
  by_cases c2 : 1099511627776 < till
  · rw [may_hi c2]
    simp only [c1, c2, decide_true, decide_false, if_true, go_sem]
    exact .ret (didR_same h hb)
  rw [may_in c1 c2]
  simp only [c1, c2, decide_false, Bool.true_eq_false, if_false, go_sem]
  refine (k56 (h.bel hb) hS.l1).bind ?_
  rintro ⟨_, w2⟩ ⟨e2, b2⟩
  simp only at e2 b2
  subst e2
  have B2 := hb.trans b2
  cases hk : hasK L (keyM k) with
  | false =>
    simp only [idx_none hk, show decide ((-1 : Int) < 0) = true from rfl, Bool.false_eq_true, if_false, go_sem]
    exact .ret (didR_same h B2)
  | true =>
  obtain ⟨i, x, e, hx, hxk, hno⟩ := idx_some hk
  have d : decide ((i : Int) < 0) = false := by rw [decide_eq_false_iff_not]; omega
  have s0 := hS.s0
  have s1 := hS.s1
  have h2 := h.bel B2
  have A2 := A.bel b2
  simp only [e, d, if_true, fa87x2, h2.l2, go_sem]
  rw [wrap_i64 (n := seq + 1) (by omega) (by omega)]
  simp only [rset2 h2.cells, go_sem]
  have o3 := setRow_heap w2 b _ #[sv, .int .i64 lim, .int .i64 (seq + 1)] 87 _ h2.cells
  have c3 : Chg (fun k => k = b) w2 (w2.setRow b #[sv, .int .i64 lim, .int .i64 (seq + 1)]) := setRow_chg _ _
  have h3 : Rt (w2.setRow b #[sv, .int .i64 lim, .int .i64 (seq + 1)]) b sv lim (seq + 1) L := ⟨o3, c3.owns h2.own fun q hq e => h2.apart q hq e, h2.apart⟩
  generalize w2.setRow b #[sv, .int .i64 lim, .int .i64 (seq + 1)] = w3 at h3 c3
  have A3 := A2.chg c3 (fun e => nq b (.inl rfl) e.symm)
  simp only [Tup.all A3, go_sem]
  refine (k56 h3 hS.l1).bind ?_
  rintro ⟨_, w4⟩ ⟨e4, b4⟩
  simp only at e4 b4
  subst e4
  rw [e]
  have h4 := h3.bel b4
  have hi := (List.getElem?_eq_some_iff.1 hx).1
  obtain ⟨ti, hti, hts⟩ := inf99
  obtain ⟨g, hg, hix⟩ := owns_at (k := (i : Int)) h4.own Ref.und85 hti hts (by omega) (by omega)
  have hix' : ∀ w', QindexAddr Try.prog 85 sv (.int .i64 (i : Int)) w' = some (.pointer (some ⟨g, i * 8, none⟩)) := fun w' => by rw [hix, Int.toNat_natCast]
  have gb := h4.apart g hg
  obtain ⟨w5, e5, o5, c5⟩ := own_fldR (i := i) (d := 6) (x := x) (y := { x with till := till }) h4.own hg hx (by omega) rfl
  have bd : Bel w5 w5.drew := (Bel.refl _).drew
  obtain ⟨w6, e6, o6, c6⟩ := own_fldR (i := i) (d := 7) (x := { x with till := till }) (y := moveF till (seq + 1) x) (n := seq + 1) (later_bel o5 bd) hg (by rw [List.getElem?_set_self hi]) (by omega) rfl
  rw [List.set_set] at o6
  have ob5 : w5.drew.heap[b]? = some (.cells #[sv, .int .i64 lim, .int .i64 (seq + 1)] 87 (0, 0)) := bd.at_ (c5.at_ h4.cells fun e => gb e.symm)
  have l50 : Qload Try.prog 85 (.pointer (some ⟨b, 0, none⟩)) w5.drew = some sv := Qload_cell one85 (cell_at ob5 rfl)
  have l52 : Qload Try.prog 3 (.pointer (some ⟨b, 2, none⟩)) w5.drew = some (.int .i64 (seq + 1)) := Qload_cell one3 (cell_at ob5 rfl)
  simp only [fa87x0, fa87x2, h4.l0, hix', fa99x2, e5, l50, l52, fa99x3, e6, go_sem]
  rw [set_map (f := moveF till (seq + 1)) hA.keys hx hxk] at o6
  refine .ret ⟨rfl, ?_, sv, ⟨c6.at_ ob5 fun e => gb e.symm, o6, h.apart⟩, fun q hq => .inl hq⟩
  exact B2.thenChg (((((c3.mono (T := FootR b sv) fun q _ hq => .inl hq).thenBel b4).trans (c5.mono fun q _ hq => .inr (hq ▸ hg)) fun _ _ h => h).thenBel bd).trans (c6.mono fun q _ hq => .inr (hq ▸ hg)) fun _ _ h => h)

theorem erase_drop {k : Tup} : ∀ {l : List Rw} {i : Nat} {x : Rw}, l.Pairwise (fun x y => x.key ≠ y.key) → l[i]? = some x → x.key = k → l.take i ++ l.drop (i + 1) = dropL l k
  | [], _, _, _, h, _ => by simp at h
  | z :: l, 0, x, hp, h, hk => by
    simp only [List.getElem?_cons_zero, Option.some.injEq] at h
    subst h
    obtain ⟨h1, _⟩ := List.pairwise_cons.1 hp
    have e : dropL (z :: l) k = dropL l k := by simp [dropL, isK, hk]
    rw [e, drop_no fun y hy e => h1 y hy (hk.trans e.symm)]
    rfl
  | z :: l, i + 1, x, hp, h, hk => by
    simp only [List.getElem?_cons_succ] at h
    obtain ⟨h1, h2⟩ := List.pairwise_cons.1 hp
    have hz : ¬ z.key = k := fun e => h1 x (List.mem_of_getElem? h) (e.trans hk.symm)
    have e : dropL (z :: l) k = z :: dropL l k := by simp [dropL, isK, hz]
    rw [e, ← erase_drop h2 h hk]
    rfl

theorem k45 {w : World} {b : Nat} {sv : Value} {lim seq : Int} {L : List Rw} {k : Tup} (h : Rt w b sv lim seq L) (hS : Small seq L) (hA : Apart seq L) :
    Brings (Xcall Try.prog (Value.func (Fn.func 45) #[] #[]) #[.pointer (some ⟨b, 0, none⟩), k.v] w) (DidR w b sv lim (dropM seq L k)) := by
  refine e45 ?_
  unfold s45 dropM
  have A := k.new w
  have hb : Bel w (w.alloc (.cells k.cs.toArray 37)) := (Bel.refl w).alloc _
  rw [k.box]
  simp only [go_sem, Qb_eqlP (P := Try.prog) (t := 26) (e := 87) ptr26, Option.isNone_some, Tup.all A]
  generalize w.alloc (.cells k.cs.toArray 37) = w1 at A hb
  refine (k56 (h.bel hb) hS.l1).bind ?_
  rintro ⟨_, w2⟩ ⟨e2, b2⟩
  simp only at e2 b2
  subst e2
  have B2 := hb.trans b2
  cases hk : hasK L (keyM k) with
  | false =>
    simp only [idx_none hk, show decide ((-1 : Int) < 0) = true from rfl, Bool.false_eq_true, if_false, go_sem]
    exact .ret (didR_same h B2)
  | true =>
  obtain ⟨i, x, e, hx, hxk, hno⟩ := idx_some hk
  have d : decide ((i : Int) < 0) = false := by rw [decide_eq_false_iff_not]; omega
  have hi := (List.getElem?_eq_some_iff.1 hx).1
  have l1 := hS.l1
  have bd : Bel w2 w2.drew := (Bel.refl _).drew
  have B3 := B2.trans bd
  have h3 := h.bel B3
  obtain ⟨ti, hti, hts⟩ := inf99
  obtain ⟨s1, q1, V1, n1⟩ := h3.view.cutHi Ref.und85 hti hts (n := (i : Int)) (by omega) (by omega) w2.drew
  rw [Int.toNat_natCast] at V1
  obtain ⟨v1, w4, e4, F4, b4⟩ := (frR_nil w2.drew).app V1 (by rw [List.length_take]; simp; omega)
  have h4 := h3.bel b4
  have w1i : IntKind.i64.wrap ((i : Int) + 1) = ((i + 1 : Nat) : Int) := by rw [wrap_i64 (by omega) (by omega)]; rfl
  obtain ⟨s2, q2, V2, n2⟩ := h4.view.cutLo Ref.und85 hti hts (n := ((i + 1 : Nat) : Int)) (by omega) (by omega) w4
  rw [Int.toNat_natCast] at V2
  have q2' : ∀ w', Qslice Try.prog 85 sv (some (.int .i64 ((i + 1 : Nat) : Int))) none none w' = some s2 := fun w' => by
    obtain ⟨s3, q3, V3, _⟩ := h4.view.cutLo Ref.und85 hti hts (n := ((i + 1 : Nat) : Int)) (by omega) (by omega) w'
    have hsv := Ref.owns_slice h4.own
    obtain ⟨xx, nn, cc, esv⟩ := hsv
    rw [← q2, esv]
    have hel : Try.prog.elem 85 = 99 := Ref.elem85
    have ht' : Try.prog.underlying 85 = some (.slice (Try.prog.elem 85)) := Ref.und85'
    have hn : (nn : Nat) = L.length := by
      obtain ⟨_, ⟨e, h0⟩ | ⟨g, cap, cur, e, _⟩⟩ := h4.own
      · omega
      · rw [esv] at e; injection e
    unfold Qslice qv
    rw [run_sliceAt_slice _ _ _ _ _ _ ht', run_sliceAt_slice _ _ _ _ _ _ ht', run_slice_l _ _ _ _ _ ht' _ _ (by omega) (by omega), run_slice_l _ _ _ _ _ ht' _ _ (by omega) (by omega), hel, run_size hti, run_size hti]
    rfl
  obtain ⟨v2, w5, e5, F5, b5⟩ := F4.app V2 (by rw [List.nil_append, List.length_take, List.length_drop]; omega)
  have ob5 : w5.heap[b]? = some (.cells #[sv, .int .i64 lim, .int .i64 seq] 87 (0, 0)) := b5.at_ h3.cells
  have nil0 : ([] : List Rw) ++ L.take i = L.take i := rfl
  rw [nil0, erase_drop hA.keys hx hxk] at F5
  have st := rset0 ob5 (Ref.owns_slice F5.2.1)
  simp only [e, d, if_true, fa87x0, h3.l0, q1, e4, h4.l0, w1i, q2', e5, st, eq_self, and_self, go_sem]
  have lb := h.lt b (.inl rfl)
  have sz3 := B3.size
  have nb : ∀ q, v2.ownBlock = some q → q ≠ b := fun q hq => by have := F5.2.2 q hq; omega
  refine .ret ⟨rfl, (B3.trans b5).thenChg ((setRow_chg _ _).mono fun q _ hq => .inl hq), v2, ⟨setRow_heap w5 b _ _ 87 _ ob5, (setRow_chg _ _).owns F5.2.1 nb, nb⟩, fun q hq => ?_⟩
  rcases hq with hq | hq
  · exact .inl (.inl hq)
  · have := F5.2.2 q hq; exact .inr (by omega)

end Go.Proofs.Ytcibkmahibnjeaa
