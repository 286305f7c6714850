/- The reference's Add; New, Len, Fork of both. -/
import Derived.Test.YtfakpdegiobpaaaSe13
namespace Go.Proofs.Ytfakpdegiobpaaa
open Go Go.Ev Go.RowKit
open Go.Proofs

/-- A deed on the reference's stream. -/
def DidR (w : World) (a : Nat) (sl : Value) (Z : List (RPt × List By)) (n : Int) (l' : List M) (r : Value × World) : Prop :=
  r.1 = .int .i64 n ∧ Chg (Foot a sl) w r.2 ∧ ∃ sl' Z', Rf r.2 a sl' Z' l' ∧ (∀ k, Foot a sl' k → Foot a sl k ∨ w.heap.size ≤ k) ∧ ∀ k, Reads RPt.text Z' k → Reads RPt.text Z k ∨ w.heap.size ≤ k

theorem didR_same {w w' : World} {a : Nat} {sl : Value} {Z : List (RPt × List By)} {l : List M} {n : Int} (h : Rf w a sl Z l) (hb : Bel w w') : DidR w a sl Z n l (.int .i64 n, w') :=
  ⟨rfl, .of_bel hb _, sl, Z, h.bel hb, fun _ hk => .inl hk, fun _ hk => .inl hk⟩

theorem build76 (s m : Int) (t : Sl) (w : World) : Qbuild Try.prog 76 #[(0, .int .u32 s), (1, .int .i64 m), (2, t.v)] w = some (⟨s, m, t⟩ : RPt).v := by kernel_rfl

theorem Rf.lenq {w : World} {a : Nat} {sl : Value} {Z : List (RPt × List By)} {l : List M} (h : Rf w a sl Z l) (w2 : World) : Qlen Try.prog #[72] 3 #[sl] w2 = some (.int .i64 l.length) := by
  have := h.view.len RPt.und72 (ty := 3) w2
  rwa [List.length_map, h.len] at this
theorem St.lenq {w : World} {a : Nat} {sl : Value} {Z : List (Pt × List By)} {l : List M} (h : St w a sl Z l) (w2 : World) : Qlen Try.prog #[64] 3 #[sl] w2 = some (.int .i64 l.length) := by
  have := h.view.len Pt.und64 (ty := 3) w2
  rwa [List.length_map, h.len] at this

/-- The end of the reference's Add. -/
theorem tail28 {w0 w : World} {a : Nat} {sl tv : Value} {Z : List (RPt × List By)} {l : List M} {p : M} (h0 : Rf w0 a sl Z l) (hb : Bel w0 w) (htv : View By.cs 1 w0 tv p.bs) (hl : p.bs.length ≤ 1000) (hm8 : l.length < 8) :
    ∃ t w1 v' w2 w3, Xbi Try.prog .append #[34, 34] 34 #[.slice (some ⟨w.heap.size, 0, none⟩) 0 0, tv] (w.alloc (.cells #[] 5)) = some (t.v, w1) ∧ Bel w w1 ∧
      Xbi Try.prog .append #[72, 72] 72 #[sl, .slice (some ⟨w1.heap.size, 0, none⟩) 1 1] (w1.alloc (.cells (⟨p.start, p.was, t⟩ : RPt).cs.toArray 76)) = some (v', w2) ∧
      Xstore Try.prog 72 (.pointer (some ⟨a, 0, none⟩)) v' w2 = some (undef, w3) ∧ DidR w0 a sl Z 0 (l ++ [p]) (.int .i64 0, w3) := by
  have hz := h0.len
  obtain ⟨v, w1, e1, b1, o1, f1⟩ := By.copy34 (htv.bel hb) hl
  simp only at b1 o1 f1
  obtain ⟨x, n, c, rfl⟩ := By.owns_slice o1
  have h1 := h0.bel (hb.trans b1)
  have b2 : Bel w1 (w1.alloc (.cells (⟨p.start, p.was, ⟨x, n, c⟩⟩ : RPt).cs.toArray 76)) := (Bel.refl w1).alloc _
  obtain ⟨v', w2, e2, o2, hg, hk⟩ := RPt.app72 (h1.bel b2).owns (RPt.litView ⟨p.start, p.was, ⟨x, n, c⟩⟩ w1) (by rw [List.length_map]; simp; omega)
  have c2 : Chg (fun k => sl.ownBlock = some k) w1 w2 := b2.thenChg ((Chg.of_grown hg).mono fun k _ hk => hk.symm)
  have hk' : ∀ k, v'.ownBlock = some k → sl.ownBlock = some k ∨ w1.heap.size ≤ k := fun k hv => (hk k hv).imp id fun h => by simp at h; omega
  have s0 := hb.size
  have s1 := b1.size
  have lsl : ∀ k, sl.ownBlock = some k → k < w0.heap.size := fun k hk => h0.lt k (.inr hk)
  have la := h0.lt a (.inl rfl)
  have na : v'.ownBlock ≠ some a := fun e => by
    rcases hk' a e with h1 | h1
    · exact h0.apart h1
    · omega
  have va2 := c2.at_ h1.var (fun e => h0.apart e)
  have c3 := setRow_chg (w := w2) a #[v']
  have C : Chg (fun k => sl.ownBlock = some k ∨ k = a) w1 (w2.setRow a #[v']) := chg_or c2 c3
  refine ⟨⟨x, n, c⟩, w1, v', w2, _, e1, b1, e2, RPt.store72 va2 (RPt.owns_slice o2), rfl, (hb.trans b1).thenChg (C.mono fun k _ hs => hs.elim .inr .inl), v', Z ++ [(⟨p.start, p.was, ⟨x, n, c⟩⟩, p.bs)], ⟨setRow_heap w2 a _ _ 74 _ va2, ?_, na, ?_, ?_, ?_⟩, ?_, ?_⟩
  · rw [List.map_append]
    exact c3.owns o2 fun k hk e => na (by rw [hk, e])
  · intro z hz
    rcases List.mem_append.1 hz with hz | hz
    · obtain ⟨q1, q2, q3⟩ := h0.texts z hz
      refine ⟨(h1.texts z hz).1.chg C fun k hk hs => ?_, q2, fun k hk e => ?_⟩
      · rcases hs with hs | hs
        · exact q3 k hk hs
        · exact q2 (by rw [hk, hs])
      · have := q1.lt hk
        rcases hk' k e with h1 | h1
        · exact q3 k hk h1
        · omega
    · simp only [List.mem_singleton] at hz
      subst hz
      simp only
      have tl : ∀ k, (Value.slice x n c).ownBlock = some k → w.heap.size ≤ k ∧ k < w1.heap.size := fun k hk => ⟨f1 k hk, (o1.lt k hk).2⟩
      refine ⟨OwnB.chg o1 C fun k hk hs => ?_, fun e => ?_, fun k hk e => ?_⟩
      · have q := tl k hk
        rcases hs with hs | hs
        · have := lsl k hs; omega
        · omega
      · have q := tl a e; omega
      · have q := tl k hk
        rcases hk' k e with h1 | h1
        · have := lsl k h1; omega
        · omega
  · rw [List.map_append, h0.tells]; rfl
  · simp; omega
  · rintro k (rfl | hk)
    · exact .inl (.inl rfl)
    · rcases hk' k hk with h1 | h1
      · exact .inl (.inr h1)
      · exact .inr (by omega)
  · rintro k ⟨z, hz, hk⟩
    rcases List.mem_append.1 hz with hz | hz
    · exact .inl ⟨z, hz, hk⟩
    · simp only [List.mem_singleton] at hz
      subst hz
      have := f1 k hk
      exact .inr (by omega)

theorem k28 {w : World} {a : Nat} {sl tv : Value} {Z : List (RPt × List By)} {l : List M} {p : M} (h : Rf w a sl Z l) (htv : View By.cs 1 w tv p.bs) :
    Brings (Xcall Try.prog (Value.func (Fn.func 28) #[] #[]) #[.pointer (some ⟨a, 0, none⟩), .int .u32 p.start, .int .i64 p.was, tv] w) (DidR w a sl Z (addM l p).1 (addM l p).2) := by
  refine e28 ?_
  unfold s28
  have hm := h.most
  have hz := h.len
  simp only [go_sem, Qb_eqlP (P := Try.prog) (t := 25) (e := 74) ptr25, Option.isNone_some]
  have bad : mayM p.was = false ∨ mayM p.bs.length = false → Brings (some (Value.int .i64 2, w)) (DidR w a sl Z (addM l p).1 (addM l p).2) := fun hn => by
    unfold addM
    rw [if_pos hn]
    exact .ret (didR_same h (Bel.refl _))
  cases a1 : decide (p.was < 1) <;> simp only [go_sem, htv.len By.und34]
  rotate_left
  · exact bad (.inl (by unfold mayM; simp at a1 ⊢; omega))
  cases a2 : decide ((128 : Int) < p.was) <;> simp only [go_sem, htv.len By.und34]
  rotate_left
  · exact bad (.inl (by unfold mayM; simp at a2 ⊢; omega))
  cases a3 : decide ((p.bs.length : Int) < 1) <;> simp only [go_sem, htv.len By.und34]
  rotate_left
  · exact bad (.inr (by unfold mayM; simp at a3 ⊢; omega))
  cases a4 : decide ((128 : Int) < (p.bs.length : Int)) <;> simp only [go_sem, htv.len By.und34]
  rotate_left
  · exact bad (.inr (by unfold mayM; simp at a4 ⊢; omega))
  clear bad
  have hw : mayM p.was = true := by unfold mayM; simp at a1 a2 ⊢; omega
  have hl : mayM p.bs.length = true := by unfold mayM; simp at a3 a4 ⊢; omega
  have hl1 : p.bs.length ≤ 1000 := by simp at a4; omega
  clear a1 a2 a3 a4
  have am : ∀ l', l.reverse = l' → (addM l p) = if (match l' with | [] => false | q :: _ => decide (aheadM p.start q.end_ < 0)) = true then (2, l) else if 8 ≤ l.length then (9, l) else (0, l ++ [p]) := fun l' e => by
    unfold addM
    rw [if_neg (by rw [hw, hl]; simp), e]; rfl
  have bd : Bel w w.drew := (Bel.refl _).drew
  generalize w.drew = w1 at bd
  have h1 := h.bel bd
  simp only [h1.ptr (Bel.refl _), h1.lenq, go_sem]
  -- what is done behind the last part
  have tail : ∀ {w2 : World}, Bel w w2 → (∀ l', l.reverse = l' → (match l' with | [] => false | q :: _ => decide (aheadM p.start q.end_ < 0)) = false) → Brings ((Qload Try.prog 72 (.pointer (some ⟨a, 0, none⟩)) w2).bind fun v836 =>
     (Qlen Try.prog #[72] 3 #[v836] w2).bind fun v837 =>
     (Qbin Try.prog .geq 3 v837 (.int .i64 8)).bind fun v838 =>
     condK v838 (some (Value.int .i64 9, w2)) (
      (Qload Try.prog 72 (.pointer (some ⟨a, 0, none⟩)) w2.drew).bind fun v841 =>
      (XbuildSlice Try.prog 34 0 #[] w2.drew).bind fun r842 =>
      (Xbi Try.prog .append #[34, 34] 34 #[r842.1, tv] r842.2).bind fun r843 =>
      (Qbuild Try.prog 76 #[(0, .int .u32 p.start), (1, .int .i64 p.was), (2, r843.1)] r843.2).bind fun v844 =>
      (XbuildSlice Try.prog 72 1 #[(0, v844)] r843.2).bind fun r845 =>
      (Xbi Try.prog .append #[72, 72] 72 #[v841, r845.1] r845.2).bind fun r846 =>
      (Xstore Try.prog 72 (.pointer (some ⟨a, 0, none⟩)) r846.1 r846.2).bind fun r849 =>
      chkK ((Qload Try.prog 72 (.pointer (some ⟨a, 0, none⟩)) w2.drew = some v841 ∧ Qload Try.prog 72 (.pointer (some ⟨a, 0, none⟩)) r842.2 = some v841) ∧ ((Qload Try.prog 72 (.pointer (some ⟨a, 0, none⟩)) r842.2 = some v841 ∧ Qload Try.prog 72 (.pointer (some ⟨a, 0, none⟩)) r843.2 = some v841) ∧ ((Qload Try.prog 72 (.pointer (some ⟨a, 0, none⟩)) r843.2 = some v841 ∧ Qload Try.prog 72 (.pointer (some ⟨a, 0, none⟩)) r845.2 = some v841) ∧ True)))
       (some (Value.int .i64 0, r849.2)))) (DidR w a sl Z (addM l p).1 (addM l p).2) := by
    intro w2 b2 hno
    rw [am _ rfl, if_neg (by rw [hno _ rfl]; decide)]
    have h2 := h.bel b2
    simp only [h2.ptr (Bel.refl _), h2.lenq, go_sem]
    by_cases c8 : 8 ≤ l.length
    · have e8 : decide ((8 : Int) ≤ (l.length : Int)) = true := by rw [decide_eq_true_iff]; omega
      simp only [e8, go_sem, c8, if_true]
      exact .ret (didR_same h b2)
    · have e8 : decide ((8 : Int) ≤ (l.length : Int)) = false := by rw [decide_eq_false_iff_not]; omega
      have b3 : Bel w w2.drew := b2.drew
      generalize w2.drew = w3 at b3
      have h3 := h.bel b3
      obtain ⟨t, w4, v', w5, w6, q1, q2, q3, q4, q5⟩ := tail28 h b3 htv hl1 (by omega)
      simp only [e8, go_sem, c8, if_false, h3.ptr (Bel.refl _), By.lit0, q1, build76, RPt.lit72, q3, q4, h3.ptr ((Bel.refl _).alloc _), h3.ptr q2, h3.ptr (q2.alloc _), eq_self, and_self]
      exact .ret q5
  rcases Nat.eq_zero_or_pos l.length with e0 | e0
  · have hl0 : l = [] := List.length_eq_zero_iff.1 e0
    have : decide ((0 : Int) < (l.length : Int)) = false := by rw [decide_eq_false_iff_not]; omega
    simp only [this, go_sem]
    exact tail bd (fun l' e => by rw [hl0] at e; subst e; rfl)
  · have : decide ((0 : Int) < (l.length : Int)) = true := by rw [decide_eq_true_iff]; omega
    simp only [this, go_sem, h1.ptr (Bel.refl _), h1.lenq]
    rw [wrap_i64 (by omega) (by omega), show (l.length : Int) - 1 = ((l.length - 1 : Nat) : Int) by omega]
    obtain ⟨x, g, o, hx, _, hix, hc⟩ := RPt.getR h1.view (n := ((l.length - 1 : Nat) : Int)) (by omega) (by rw [List.length_map]; omega)
    rw [Int.toNat_natCast] at hx
    obtain ⟨z, hzm, rfl, hp⟩ := h1.at_ hx
    simp only [hix, RPt.all hc, go_sem]
    refine k40.bind ?_
    rintro ⟨_, w2⟩ ⟨e1, b2⟩
    simp only at e1 b2
    subst e1
    simp only [go_sem]
    refine k18.bind ?_
    rintro _ rfl
    simp only [go_sem]
    have hrev : ∃ l', l.reverse = tellM z :: l' := by
      have : l.reverse[0]? = some (tellM z) := by rw [List.getElem?_reverse e0]; exact hp
      cases hr : l.reverse with
      | nil => rw [hr] at this; simp at this
      | cons q l' => rw [hr] at this; simp at this; exact ⟨l', by rw [this]⟩
    obtain ⟨l', hr⟩ := hrev
    refine .cond (fun hgt => ?_) (fun hgt => ?_)
    · rw [am _ hr, if_pos (by exact hgt)]
      exact .ret (didR_same h (bd.trans b2))
    · have := tail (bd.trans b2) (fun l' e => by rw [hr] at e; subst e; exact hgt)
      exact this

end Go.Proofs.Ytfakpdegiobpaaa
