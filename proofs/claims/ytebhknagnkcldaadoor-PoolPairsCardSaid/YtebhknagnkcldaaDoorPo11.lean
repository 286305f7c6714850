/- Laws of the pool: plays; back; wish; forks; pairs. -/
import Derived.Test.YtebhknagnkcldaaDoorPo10
namespace Go.Proofs.YtebhknagnkcldaaDoor
open Go Go.Ev Go.RowKit
open Go.Proofs

/-! ## Plays -/

theorem l3 {w : World} {low size : Nat} {s : Value} {ds : List Deed} (hT : Tab w) (hl : low < 65536) (hs : size < 65536) (hv : View Deed.cs 2 w s ds) (hok : ∀ x ∈ ds, x.ok) : Brings (s3 (.int .u16 (low : Int)) (.int .u16 (size : Int)) s w) (Yes w) := by
  unfold s3
  refine (k11 hl hs hv hok).bind ?_
  rintro ⟨_, w1⟩ ⟨a, b, sv, e1, b1, T, fa, fb⟩
  simp only at e1 b1 T
  subst e1
  simp only [Qext_0, Qext_1, Qext_2, bind_some']
  refine pick_n (K := fun v => s3M0 _ _ _ v w1) (hv.bel b1) hok hl fun n hn => ?_
  unfold s3M0
  refine (k12 (hT.bel b1)).bind ?_
  rintro ⟨_, w2⟩ ⟨e2, b2⟩
  simp only at e2 b2
  subst e2
  simp only [go_sem]
  refine (k13 ((hT.bel b1).bel b2) (T.bel b2) hn).bind ?_
  rintro ⟨_, w3⟩ ⟨e3, b3⟩
  simp only at e3 b3
  subst e3
  simp only [go_sem]
  exact .ret ⟨rfl, (b1.trans b2).trans b3⟩

/-! ## Back -/

theorem m5 {w w1 : World} {a b lo hi n : Nat} {sv : Value} {U : List Nat} (hT : Tab w) (hb : Bel w w1) (T : Two w1 a b sv lo hi U) (fa : w.heap.size ≤ a) (hn : n < 65536) : Brings (s5M0 (.pointer (some ⟨a, 0, none⟩)) (.pointer (some ⟨b, 0, none⟩)) (.int .u16 (n : Int)) w1) (Yes w) := by
  unfold s5M0
  have hB := T.A.1
  have hh := hB.hi1
  have fin : ∀ {w2 : World} {m : Nat}, m < 65536 → Chg (fun k => k = a) w1 w2 → Pl w2 a lo hi U → Brings ((Xcall Tryd.prog (Value.func (Fn.func 13) #[] #[]) #[.pointer (some ⟨a, 0, none⟩), .pointer (some ⟨b, 0, none⟩), .int .u16 (m : Int)] w2).bind fun r91 => some (r91.1, r91.2)) (Yes w) := by
    intro w2 m hm c p
    have b2 : Bel w w2 := (hb.thenChg c).bel fun k hk e => by omega
    refine (k13 (hT.bel b2) ⟨p, T.B.chg c fun k hk e => T.dis (e ▸ hk), T.dis⟩ hm).bind ?_
    rintro ⟨_, w3⟩ ⟨e3, b3⟩
    exact .ret ⟨e3, b2.trans b3⟩
  have pair : ∀ {w2 : World} {m : Nat}, m < 65536 → Chg (fun k => k = a) w1 w2 → Pl w2 a lo hi U → Brings ((Xcall Tryd.prog (Value.func (Fn.func 19) #[] #[]) #[.pointer (some ⟨a, 0, none⟩), .int .u16 (n : Int)] w2).bind fun r77 =>
      (Qext r77.1 0).bind fun v78 =>
      (Qext r77.1 1).bind fun v79 =>
      (Qbin Tryd.prog Go.BinOp.eql 35 v79 (Go.Value.int Go.IntKind.i64 0)).bind fun v80 =>
      (guardQ v80 true (Qbin Tryd.prog Go.BinOp.rem 22 (gv (isB v80 true) v78) (Go.Value.int Go.IntKind.u16 2))).bind fun v81 =>
      (guardQ v80 true (Qbin Tryd.prog Go.BinOp.neq 22 v81 (Go.Value.int Go.IntKind.u16 0))).bind fun v82 =>
      (guardX (gv (isB v80 true) v82) false r77.2 (Xcall Tryd.prog (Value.func (Fn.func 18) #[] #[]) #[(gv (isB (gv (isB v80 true) v82) false) (.pointer (some ⟨a, 0, none⟩))), (gv (isB (gv (isB v80 true) v82) false) v78)] r77.2)).bind fun r83 =>
      (guardQ (gv (isB v80 true) v82) false (Qbin Tryd.prog Go.BinOp.neq 35 r83.1 (Go.Value.int Go.IntKind.i64 0))).bind fun v84 =>
      (guardQ v80 true (Qpick (gv (isB v80 true) v82) (Go.Value.bool true) v84)).bind fun v85 =>
      (guardQ (gv (isB v80 true) v85) false (Qbin Tryd.prog Go.BinOp.add 22 (gv (isB (gv (isB v80 true) v85) false) v78) (Go.Value.int Go.IntKind.u16 1))).bind fun v86 =>
      (guardX (gv (isB v80 true) v85) false r83.2 (Xcall Tryd.prog (Value.func (Fn.func 18) #[] #[]) #[(gv (isB (gv (isB v80 true) v85) false) (.pointer (some ⟨a, 0, none⟩))), v86] r83.2)).bind fun r87 =>
      (guardQ (gv (isB v80 true) v85) false (Qbin Tryd.prog Go.BinOp.neq 35 r87.1 (Go.Value.int Go.IntKind.i64 0))).bind fun v88 =>
      (guardQ v80 true (Qpick (gv (isB v80 true) v85) (Go.Value.bool true) v88)).bind fun v89 =>
      (Qpick v80 v89 (Go.Value.bool false)).bind fun v90 =>
      condK v90 (
        some ((Go.Value.bool false), r87.2)
      ) (
        (Xcall Tryd.prog (Value.func (Fn.func 13) #[] #[]) #[(.pointer (some ⟨a, 0, none⟩)), (.pointer (some ⟨b, 0, none⟩)), (.int .u16 (m : Int))] r87.2).bind fun r91 =>
        some (r91.1, r91.2)
      )) (Yes w) := by
    intro w2 m hm c p
    refine (k19 p hn).bind ?_
    rintro ⟨_, w3⟩ ⟨e1, c3, p3⟩
    simp only at e1 c3 p3
    subst e1
    by_cases z : takenN lo hi U n 2 = 0
    · rw [take_err z] at p3 ⊢
      simp only [go_sem, show ((9 : Int) == 0) = false from rfl]
      exact fin hm (c.trans c3 fun _ _ h => h) p3
    · obtain ⟨q1, q2, q3⟩ := (taken_or (wish := n) hB (show 1 ≤ 2 by omega)).resolve_left z
      rw [take_ok z] at p3 ⊢
      generalize takenN lo hi U n 2 = f at z q1 q2 q3 p3
      have f1 := free_at q2 (show 1 < 2 by omega)
      have n2 : (2 : Int) ≠ 0 := by decide
      have d1 : (f : Int).tmod 2 = ((f % 2 : Nat) : Int) := by rw [Int.tmod_eq_emod_of_nonneg (by omega)]; rfl
      have w16 : IntKind.u16.wrap ((f : Int) + 1) = ((f + 1 : Nat) : Int) := by
        rw [show (f : Int) + 1 = ((f + 1 : Nat) : Int) by omega]
        exact wrap_u rfl (show f + 1 < 65536 by omega)
      simp only [go_sem, show ((0 : Int) == 0) = true from rfl, Qb_remP n2, d1, q3, show (((0 : Nat) : Int) != 0) = false from rfl]
      refine (k18 p3 (show f < 65536 by omega)).bind ?_
      rintro ⟨_, w4⟩ ⟨e4, c4, p4⟩
      obtain ⟨g1, g2⟩ := back2 hB q2
      simp only [g1] at e4
      simp only at e4 c4 p4
      subst e4
      simp only [go_sem, show ((0 : Int) != 0) = false from rfl, w16]
      refine (k18 p4 (show f + 1 < 65536 by omega)).bind ?_
      rintro ⟨_, w5⟩ ⟨e5, c5, p5⟩
      rw [g2] at e5 p5
      simp only at e5 c5 p5
      subst e5
      simp only [go_sem, show ((0 : Int) != 0) = false from rfl]
      exact fin hm (((c.trans c3 fun _ _ h => h).trans c4 fun _ _ h => h).trans c5 fun _ _ h => h) p5
  refine (k15 T.A hn).bind ?_
  rintro ⟨_, w2⟩ ⟨e1, c2, p2⟩
  simp only at e1 c2 p2
  subst e1
  by_cases z : takenN lo hi U n 1 = 0
  · rw [take_err z] at p2 ⊢
    simp only [Qext_0, Qext_1, bind_some', Qb_eql, show ((9 : Int) == 0) = false from rfl, guardX_ft, guardQ_ft, Qpick_f, condK_f]
    exact pair (m := 0) (by omega) c2 p2
  · obtain ⟨q1, q2, q3⟩ := (taken_or (wish := n) hB (show 1 ≤ 1 by omega)).resolve_left z
    rw [take_ok z] at p2 ⊢
    generalize takenN lo hi U n 1 = f at z q1 q2 q3 p2
    simp only [Qext_0, Qext_1, bind_some', Qb_eql, show ((0 : Int) == 0) = true from rfl, guardX_tt, isB_t, gv_t]
    refine (k18 p2 (show f < 65536 by omega)).bind ?_
    rintro ⟨_, w3⟩ ⟨e3, c3, p3⟩
    rw [back1 hB q2] at e3 p3
    simp only at e3 c3 p3
    subst e3
    simp only [bind_some', Qb_neq, show ((0 : Int) != 0) = false from rfl, guardQ_tt, Qpick_t, condK_f]
    exact pair (m := f) (by omega) (c2.trans c3 fun _ _ h => h) p3

theorem l5 {w : World} {low size : Nat} {s : Value} {ds : List Deed} (hT : Tab w) (hl : low < 65536) (hs : size < 65536) (hv : View Deed.cs 2 w s ds) (hok : ∀ x ∈ ds, x.ok) : Brings (s5 (.int .u16 (low : Int)) (.int .u16 (size : Int)) s w) (Yes w) := by
  unfold s5
  refine (k11 hl hs hv hok).bind ?_
  rintro ⟨_, w1⟩ ⟨a, b, sv, e1, b1, T, fa, fb⟩
  simp only at e1 b1 T
  subst e1
  simp only [Qext_0, Qext_1, Qext_2, bind_some']
  refine (k12 (hT.bel b1)).bind ?_
  rintro ⟨_, w2⟩ ⟨e2, b2⟩
  simp only at e2 b2
  subst e2
  simp only [bind_some', Qun_not, Bool.not_true, guardQ_ff, isB_f, gv_t, Bool.not_false, Qpick_f, condK_f]
  have B := b1.trans b2
  exact pick_n (K := fun v => s5M0 _ _ v w2) (hv.bel B) hok hl fun n hn => m5 hT B (T.bel b2) fa hn

/-! ## Wish -/

theorem m6 {w w1 : World} {a lo hi n : Nat} {U : List Nat} (hT : Tab w) (hb : Bel w w1) (h : Pl w1 a lo hi U) (fa : w.heap.size ≤ a) (hn : n < 65536) : Brings (s6M0 (.pointer (some ⟨a, 0, none⟩)) (.int .u16 (n : Int)) w1) (Yes w) := by
  unfold s6M0
  have hB := h.1
  have la := h.lt
  have hh := hB.hi1
  refine (k20 h).bind ?_
  rintro ⟨_, w2⟩ ⟨c, e2, b2, fc, p2⟩
  simp only at e2 b2 p2
  subst e2
  simp only
  refine (k15 (n := 0) p2 (by omega)).bind ?_
  rintro ⟨_, w3⟩ ⟨e3, c3, p3⟩
  simp only at e3 c3 p3
  subst e3
  have h3 := (h.bel b2).chg c3 (by omega)
  have b3 : Bel w w3 := ((hb.trans b2).thenChg c3).bel fun k hk e => by have := hb.size; omega
  have t0 : takenN lo hi U 0 1 = leastN lo hi U 1 := by
    unfold takenN
    split
    · next hc => exact absurd rfl (cond_pos hB (Nat.le_refl 1) hc).1
    · rfl
  by_cases z : takenN lo hi U 0 1 = 0
  · rw [take_err z]
    simp only [go_sem, show ((9 : Int) != 0) = true from rfl]
    have zl := taken_none hB z
    refine (k15 h3 hn).bind ?_
    rintro ⟨_, w4⟩ ⟨e4, c4, p4⟩
    rw [take_err (none_taken hB zl)] at e4 p4
    simp only at e4 c4 p4
    subst e4
    have b4 : Bel w w4 := (b3.thenChg c4).bel fun k hk e => by omega
    simp only [go_sem, show ((9 : Int) == 9) = true from rfl]
    refine (k14 (hT.bel b4) p4).bind ?_
    rintro ⟨_, w5⟩ ⟨e5, b5⟩
    simp only at e5 b5
    subst e5
    have fl := full_len hB (none_full hB zl)
    have := hB.le
    have e0 : ((hi : Int) - lo + 1 - U.length == 0) = true := by rw [beq_iff_eq]; omega
    simp only [go_sem, e0]
    exact .ret ⟨rfl, b4.trans b5⟩
  · rw [take_ok z, t0]
    rw [t0] at z
    simp only [go_sem, show ((0 : Int) != 0) = false from rfl]
    refine (k16 h3 hn).bind ?_
    rintro _ rfl
    simp only
    refine (k15 h3 hn).bind ?_
    rintro ⟨_, w4⟩ ⟨e4, c4, p4⟩
    simp only at e4 c4 p4
    subst e4
    have b4 : Bel w w4 := (b3.thenChg c4).bel fun k hk e => by omega
    by_cases hc : condN lo hi U 1 n = true
    · have tn : takenN lo hi U n 1 = n := by unfold takenN; rw [if_pos hc]
      have hl := least_le hB (Nat.le_refl 1) hc
      have hp := cond_pos hB (Nat.le_refl 1) hc
      have hno : n ∉ U := by have := free_at hp.2.2 (show 0 < 1 by omega); exact this.2.2
      rw [take_ok (by rw [tn]; exact hp.1), tn]
      have g1 : decide ((leastN lo hi U 1 : Int) ≤ (n : Int)) = true := by rw [decide_eq_true_iff]; omega
      simp only [go_sem, show ((0 : Int) == 0) = true from rfl, beq_self_eq_true, hno, decide_false, Bool.not_false, g1]
      exact .ret ⟨rfl, b4⟩
    · have tn : takenN lo hi U n 1 = leastN lo hi U 1 := by unfold takenN; rw [if_neg hc]
      rw [take_ok (by rw [tn]; exact z), tn]
      have g1 : decide ((leastN lo hi U 1 : Int) ≤ (leastN lo hi U 1 : Int)) = true := by rw [decide_eq_true_iff]; omega
      cases e5 : ((leastN lo hi U 1 : Int) == (n : Int)) with
      | false =>
        simp only [go_sem, show ((0 : Int) == 0) = true from rfl, e5, beq_self_eq_true, g1]
        exact .ret ⟨rfl, b4⟩
      | true =>
        by_cases hU : n ∈ U
        · simp only [go_sem, show ((0 : Int) == 0) = true from rfl, e5, hU, decide_true, Bool.not_true, beq_self_eq_true, g1]
          exact .ret ⟨rfl, b4⟩
        · simp only [go_sem, show ((0 : Int) == 0) = true from rfl, e5, hU, decide_false, Bool.not_false, beq_self_eq_true, g1]
          exact .ret ⟨rfl, b4⟩

theorem l6 {w : World} {low size : Nat} {s : Value} {ds : List Deed} (hT : Tab w) (hl : low < 65536) (hs : size < 65536) (hv : View Deed.cs 2 w s ds) (hok : ∀ x ∈ ds, x.ok) : Brings (s6 (.int .u16 (low : Int)) (.int .u16 (size : Int)) s w) (Yes w) := by
  unfold s6
  refine (k11 hl hs hv hok).bind ?_
  rintro ⟨_, w1⟩ ⟨a, b, sv, e1, b1, T, fa, fb⟩
  simp only at e1 b1 T
  subst e1
  simp only [Qext_0, Qext_1, Qext_2, bind_some']
  refine (k12 (hT.bel b1)).bind ?_
  rintro ⟨_, w2⟩ ⟨e2, b2⟩
  simp only at e2 b2
  subst e2
  simp only [bind_some', Qun_not, Bool.not_true, guardQ_ff, isB_f, gv_t, Bool.not_false, Qpick_f, condK_f]
  have B := b1.trans b2
  exact pick_n (K := fun v => s6M0 _ v w2) (hv.bel B) hok hl fun n hn => m6 hT B (T.bel b2).A fa hn

/-! ## Pairs -/

theorem m9 {w w1 : World} {a lo hi n : Nat} {U : List Nat} (hT : Tab w) (hb : Bel w w1) (h : Pl w1 a lo hi U) (fa : w.heap.size ≤ a) (hn : n < 65536) : Brings (s9M0 (.pointer (some ⟨a, 0, none⟩)) (.int .u16 (n : Int)) w1) (Yes w) := by
  unfold s9M0
  have hB := h.1
  have la := h.lt
  have hh := hB.hi1
  have hle := hB.le
  refine (k20 h).bind ?_
  rintro ⟨_, w2⟩ ⟨c, e2, b2, fc, p2⟩
  simp only at e2 b2 p2
  subst e2
  simp only
  have h2 := h.bel b2
  refine (k19 h2 hn).bind ?_
  rintro ⟨_, w3⟩ ⟨e3, c3, p3⟩
  simp only at e3 c3 p3
  subst e3
  have q3 := p2.chg c3 (by omega)
  have b3 : Bel w w3 := ((hb.trans b2).thenChg c3).bel fun k hk e => by omega
  by_cases z : takenN lo hi U n 2 = 0
  · rw [take_err z] at p3 ⊢
    simp only [go_sem, show ((9 : Int) != 0) = true from rfl, show ((9 : Int) == 9) = true from rfl, show (((0 : Nat) : Int) == 0) = true from rfl]
    refine (k14 (hT.bel b3) p3).bind ?_
    rintro ⟨_, w4⟩ ⟨e4, b4⟩
    simp only at e4 b4
    subst e4
    simp only
    refine (k14 (hT.bel (b3.trans b4)) (q3.bel b4)).bind ?_
    rintro ⟨_, w5⟩ ⟨e5, b5⟩
    simp only at e5 b5
    subst e5
    simp only [go_sem, beq_self_eq_true]
    exact .ret ⟨rfl, (b3.trans b4).trans b5⟩
  · obtain ⟨g1, g2, g3⟩ := (taken_or (wish := n) hB (show 1 ≤ 2 by omega)).resolve_left z
    rw [take_ok z] at p3 ⊢
    generalize takenN lo hi U n 2 = f at z g1 g2 g3 p3
    have f0 := free_at g2 (show 0 < 2 by omega)
    have f1 := free_at g2 (show 1 < 2 by omega)
    have n2 : (2 : Int) ≠ 0 := by decide
    have dn : (n : Int).tmod 2 = ((n % 2 : Nat) : Int) := by rw [Int.tmod_eq_emod_of_nonneg (by omega)]; rfl
    have df : (f : Int).tmod 2 = ((f % 2 : Nat) : Int) := by rw [Int.tmod_eq_emod_of_nonneg (by omega)]; rfl
    have w16 : ∀ m : Nat, m < 65535 → IntKind.u16.wrap ((m : Int) + 1) = ((m + 1 : Nat) : Int) := fun m hm => by
      rw [show (m : Int) + 1 = ((m + 1 : Nat) : Int) by omega]
      exact wrap_u rfl (show m + 1 < 65536 by omega)
    have fU : f ∉ U := f0.2.2
    have f1U : f + 1 ∉ U := f1.2.2
    have fI : f ∈ insN U f 2 := mem_insN.2 (.inr ⟨by omega, by omega⟩)
    have f1I : f + 1 ∈ insN U f 2 := mem_insN.2 (.inr ⟨by omega, by omega⟩)
    have qb : ∀ x y : Bool, Qbin Tryd.prog .eql 4 (.bool x) (.bool y) = some (.bool (x == y)) := fun x y => Qb_eqlB (by kernel_rfl)
    have hub : U.length ≤ 65536 := asc_len hB.asc fun u hu => by have := hB.mem u hu; omega
    -- behind 'fits'
    have tail : ∀ fit : Bool, (f = n → fit = true) → Brings (
      (Qbin Tryd.prog Go.BinOp.rem 22 (.int .u16 (f : Int)) (Go.Value.int Go.IntKind.u16 2)).bind fun v228 =>
      (Qbin Tryd.prog Go.BinOp.eql 22 v228 (Go.Value.int Go.IntKind.u16 0)).bind fun v229 =>
      (guardX v229 true w3 (Xcall Tryd.prog (Value.func (Fn.func 16) #[] #[]) #[(gv (isB v229 true) (.pointer (some ⟨c, 0, none⟩))), (gv (isB v229 true) (.int .u16 (f : Int)))] w3)).bind fun r230 =>
      (guardQ v229 true (Qun Go.UnOp.not r230.1)).bind fun v231 =>
      (Qpick v229 v231 (Go.Value.bool false)).bind fun v232 =>
      (guardQ v232 true (Qbin Tryd.prog Go.BinOp.add 22 (gv (isB v232 true) (.int .u16 (f : Int))) (Go.Value.int Go.IntKind.u16 1))).bind fun v233 =>
      (guardX v232 true r230.2 (Xcall Tryd.prog (Value.func (Fn.func 16) #[] #[]) #[(gv (isB v232 true) (.pointer (some ⟨c, 0, none⟩))), v233] r230.2)).bind fun r234 =>
      (guardQ v232 true (Qun Go.UnOp.not r234.1)).bind fun v235 =>
      (Qpick v232 v235 (Go.Value.bool false)).bind fun v236 =>
      (guardX v236 true r234.2 (Xcall Tryd.prog (Value.func (Fn.func 16) #[] #[]) #[(gv (isB v236 true) (.pointer (some ⟨a, 0, none⟩))), (gv (isB v236 true) (.int .u16 (f : Int)))] r234.2)).bind fun r237 =>
      (Qpick v236 r237.1 (Go.Value.bool false)).bind fun v238 =>
      (guardQ v238 true (Qbin Tryd.prog Go.BinOp.add 22 (gv (isB v238 true) (.int .u16 (f : Int))) (Go.Value.int Go.IntKind.u16 1))).bind fun v239 =>
      (guardX v238 true r237.2 (Xcall Tryd.prog (Value.func (Fn.func 16) #[] #[]) #[(gv (isB v238 true) (.pointer (some ⟨a, 0, none⟩))), v239] r237.2)).bind fun r240 =>
      (Qpick v238 r240.1 (Go.Value.bool false)).bind fun v241 =>
      (guardX v241 true r240.2 (Xcall Tryd.prog (Value.func (Fn.func 14) #[] #[]) #[(gv (isB v241 true) (.pointer (some ⟨a, 0, none⟩)))] r240.2)).bind fun r242 =>
      (guardX v241 true r242.2 (Xcall Tryd.prog (Value.func (Fn.func 14) #[] #[]) #[(gv (isB v241 true) (.pointer (some ⟨c, 0, none⟩)))] r242.2)).bind fun r243 =>
      (guardQ v241 true (Qbin Tryd.prog Go.BinOp.sub 3 r243.1 (Go.Value.int Go.IntKind.i64 2))).bind fun v244 =>
      (guardQ v241 true (Qbin Tryd.prog Go.BinOp.eql 3 r242.1 v244)).bind fun v245 =>
      (Qpick v241 v245 (Go.Value.bool false)).bind fun v246 =>
      (guardQ v246 true (Qbin Tryd.prog Go.BinOp.eql 22 (gv (isB v246 true) (.int .u16 (f : Int))) (gv (isB v246 true) (.int .u16 (n : Int))))).bind fun v247 =>
      (guardQ (gv (isB v246 true) (gv (isB v246 true) (.bool fit))) true (Qbin Tryd.prog Go.BinOp.eql 22 (gv (isB (gv (isB v246 true) (gv (isB v246 true) (.bool fit))) true) (.int .u16 (f : Int))) (gv (isB (gv (isB v246 true) (gv (isB v246 true) (.bool fit))) true) (.int .u16 (n : Int))))).bind fun v248 =>
      (guardQ v246 true (Qpick (gv (isB v246 true) (gv (isB v246 true) (.bool fit))) v248 (Go.Value.bool false))).bind fun v249 =>
      (guardQ v246 true (Qbin Tryd.prog Go.BinOp.eql 4 v247 v249)).bind fun v250 =>
      (Qpick v246 v250 (Go.Value.bool false)).bind fun v251 =>
      some (v251, r243.2)) (Yes w) := by
      intro fit hfit
      simp only [go_sem, Qb_remP n2, df, g3, show (((0 : Nat) : Int) == 0) = true from rfl]
      refine (k16 q3 (show f < 65536 by omega)).bind ?_
      rintro _ rfl
      simp only [go_sem, fU, decide_false, Bool.not_false, w16 f (by omega)]
      refine (k16 q3 (show f + 1 < 65536 by omega)).bind ?_
      rintro _ rfl
      simp only [go_sem, f1U, decide_false, Bool.not_false]
      refine (k16 p3 (show f < 65536 by omega)).bind ?_
      rintro _ rfl
      simp only [go_sem, fI, decide_true, w16 f (by omega)]
      refine (k16 p3 (show f + 1 < 65536 by omega)).bind ?_
      rintro _ rfl
      simp only [go_sem, f1I, decide_true]
      refine (k14 (hT.bel b3) p3).bind ?_
      rintro ⟨_, w4⟩ ⟨e4, b4⟩
      simp only at e4 b4
      subst e4
      simp only
      refine (k14 (hT.bel (b3.trans b4)) (q3.bel b4)).bind ?_
      rintro ⟨_, w5⟩ ⟨e5, b5⟩
      simp only at e5 b5
      subst e5
      have e6 : ((hi : Int) - lo + 1 - (insN U f 2).length == (hi : Int) - lo + 1 - U.length - 2) = true := by
        rw [insN_len, beq_iff_eq]; omega
      simp only [go_sem]
      rw [wrap_i64 (n := (hi : Int) - lo + 1 - U.length - 2) (by omega) (by omega)]
      simp only [go_sem, e6]
      by_cases c : f = n
      · have hf := hfit c
        subst hf
        have e7 : ((f : Int) == (n : Int)) = true := by rw [beq_iff_eq]; omega
        simp only [go_sem, e7, qb]
        exact .ret ⟨rfl, (b3.trans b4).trans b5⟩
      · have e7 : ((f : Int) == (n : Int)) = false := by rw [beq_eq_false_iff_ne]; omega
        cases fit <;> simp only [go_sem, e7, qb] <;> exact .ret ⟨rfl, (b3.trans b4).trans b5⟩
    simp only [Qext_0, Qext_1, bind_some', Qb_neq, show ((0 : Int) != 0) = false from rfl, condK_f]
    simp only [Qb_remP n2, dn, bind_some', Qb_eql]
    by_cases c1 : n % 2 = 0
    · simp only [c1, show (((0 : Nat) : Int) == 0) = true from rfl, guardX_tt, isB_t, gv_t]
      refine (k16 q3 hn).bind ?_
      rintro _ rfl
      by_cases c2 : n ∈ U
      · simp only [c2, decide_true, Qun_not, Bool.not_true, guardQ_tt, bind_some', Qpick_t, guardQ_ft, Qpick_f, guardX_ft, isB_t, gv_f]
        have t := tail false (fun e => absurd (e ▸ c2) fU)
        simp only [Qb_remP n2, bind_some', Qb_eql, guardX_tt, isB_t, gv_t] at t ⊢
        exact t
      · by_cases c3 : n < 65535
        · have d3 : decide ((n : Int) < 65535) = true := by rw [decide_eq_true_iff]; omega
          simp only [c2, decide_false, Qun_not, Bool.not_false, guardQ_tt, bind_some', Qpick_t, Qb_lss, isB_t, gv_t, d3, Qb_add, w16 n c3, guardX_tt]
          refine (k16 q3 (show n + 1 < 65536 by omega)).bind ?_
          rintro _ rfl
          by_cases c4 : n + 1 ∈ U
          · simp only [c4, decide_true, Qun_not, Bool.not_true, guardQ_tt, bind_some', Qpick_t]
            have t := tail false (fun e => absurd (e ▸ c4) f1U)
            simp only [Qb_remP n2, bind_some', Qb_eql, guardX_tt, isB_t, gv_t] at t ⊢
            exact t
          · simp only [c4, decide_false, Qun_not, Bool.not_false, guardQ_tt, bind_some', Qpick_t]
            have t := tail true fun _ => rfl
            simp only [Qb_remP n2, bind_some', Qb_eql, guardX_tt, isB_t, gv_t] at t ⊢
            exact t
        · have d3 : decide ((n : Int) < 65535) = false := by rw [decide_eq_false_iff_not]; omega
          simp only [c2, decide_false, Qun_not, Bool.not_false, guardQ_tt, bind_some', Qpick_t, Qb_lss, isB_t, gv_t, d3, guardQ_ft, guardX_ft, Qpick_f]
          have t := tail false (fun e => by omega)
          simp only [Qb_remP n2, bind_some', Qb_eql, guardX_tt, isB_t, gv_t] at t ⊢
          exact t
    · have e1 : (((n % 2 : Nat) : Int) == 0) = false := by rw [beq_eq_false_iff_ne]; omega
      simp only [e1, guardX_ft, guardQ_ft, Qpick_f, bind_some']
      have t := tail false (fun e => by omega)
      simp only [Qb_remP n2, bind_some', Qb_eql, guardX_tt, isB_t, gv_t] at t ⊢
      exact t

theorem l9 {w : World} {low size : Nat} {s : Value} {ds : List Deed} (hT : Tab w) (hl : low < 65536) (hs : size < 65536) (hv : View Deed.cs 2 w s ds) (hok : ∀ x ∈ ds, x.ok) : Brings (s9 (.int .u16 (low : Int)) (.int .u16 (size : Int)) s w) (Yes w) := by
  unfold s9
  refine (k11 hl hs hv hok).bind ?_
  rintro ⟨_, w1⟩ ⟨a, b, sv, e1, b1, T, fa, fb⟩
  simp only at e1 b1 T
  subst e1
  simp only [Qext_0, Qext_1, Qext_2, bind_some']
  refine (k12 (hT.bel b1)).bind ?_
  rintro ⟨_, w2⟩ ⟨e2, b2⟩
  simp only at e2 b2
  subst e2
  simp only [bind_some', Qun_not, Bool.not_true, guardQ_ff, isB_f, gv_t, Bool.not_false, Qpick_f, condK_f]
  have B := b1.trans b2
  exact pick_n (K := fun v => s9M0 _ v w2) (hv.bel B) hok hl fun n hn => m9 hT B (T.bel b2).A fa hn

/-! ## Forks -/

theorem l7 {w : World} {size : Nat} {s t : Value} {ds es : List Deed} (hT : Tab w) (hs : size < 65536) (hv : View Deed.cs 2 w s ds) (hok : ∀ x ∈ ds, x.ok) (hv2 : View Deed.cs 2 w t es) (hok2 : ∀ x ∈ es, x.ok) : Brings (s7 (.int .u16 (size : Int)) s t w) (Yes w) := by
  unfold s7
  refine (k11 (low := 30) (by omega) hs hv hok).bind ?_
  rintro ⟨_, w1⟩ ⟨a, b, sv, e1, b1, T, fa, fb⟩
  simp only at e1 b1 T
  subst e1
  generalize (rangeN 30 size).1 = lo at T
  generalize (rangeN 30 size).2 = hi at T
  generalize deedsN lo hi [] (ds.take 100) = U at T
  simp only [Qext_0, Qext_1, Qext_2, bind_some']
  refine (k12 (hT.bel b1)).bind ?_
  rintro ⟨_, w2⟩ ⟨e2, b2⟩
  simp only at e2 b2
  subst e2
  simp only [bind_some', Qun_not, Bool.not_true, guardQ_ff, isB_f, gv_t, Bool.not_false, Qpick_f, condK_f]
  have T2 := T.bel b2
  refine (k20 T2.A).bind ?_
  rintro ⟨_, w3⟩ ⟨c, e3, b3, fc, p3⟩
  simp only at e3 b3 p3
  subst e3
  have T3 := T2.bel b3
  refine (k21 T3.B).bind ?_
  rintro ⟨_, w4⟩ ⟨d, tv, e4, b4, p4, fd⟩
  simp only at e4 b4 p4
  subst e4
  have T4 := T3.bel b4
  have B4 := ((b1.trans b2).trans b3).trans b4
  have lc := p3.lt
  have l4a := T3.A.lt
  have l4b := T3.B.lt
  have F0 : Two w4 c d tv lo hi U := ⟨p3.bel b4, p4, fun hf => by have := fd c hf; omega⟩
  have l2a := T2.A.lt
  have l2b := T2.B.lt
  have z2 := b2.size
  have z3 := b3.size
  have z1 := b1.size
  have z4 := b4.size
  have h63 := hv2.small
  simp only [maxLen] at h63
  simp only
  refine Brings.loop (fun m xs w' => ∃ (i : Nat) (qv : Value), xs = [t, .bool false, .pointer (some ⟨a, 0, none⟩), .pointer (some ⟨b, 0, none⟩), .pointer (some ⟨c, 0, none⟩), .pointer (some ⟨d, 0, none⟩), .int .i64 i] ∧ i ≤ es.length ∧ i ≤ 40 ∧ m = 40 - i ∧ Bel w w' ∧ Two w' a b sv lo hi U ∧ Two w' c d qv lo hi (deedsN lo hi U (es.take i)) ∧ (∀ k, FootR d qv k → w3.heap.size ≤ k)) ?_ 40 _ _
    ⟨0, tv, rfl, by omega, by omega, by omega, B4, T4, by simpa [deedsN] using F0, fd⟩
  rintro m xs w' ⟨i, qv, rfl, hi', hi60, hm', hb, TA, TB, hf⟩
  simp only [s7B0, hv2.len und23, go_sem]
  have fin : Brings (s7R0 (.exit 0) [t, .bool false, .pointer (some ⟨a, 0, none⟩), .pointer (some ⟨b, 0, none⟩), .pointer (some ⟨c, 0, none⟩), .pointer (some ⟨d, 0, none⟩), .int .i64 i] w') (Yes w) := by
    unfold s7R0
    refine (k13 (n := 31) (hT.bel hb) TA (by omega)).bind ?_
    rintro ⟨_, w5⟩ ⟨e5, b5⟩
    simp only at e5 b5
    subst e5
    simp only [go_sem]
    refine (k13 (n := 31) (hT.bel (hb.trans b5)) (TB.bel b5) (by omega)).bind ?_
    rintro ⟨_, w6⟩ ⟨e6, b6⟩
    simp only at e6 b6
    subst e6
    simp only [go_sem]
    exact .ret ⟨rfl, (hb.trans b5).trans b6⟩
  by_cases h1 : i < es.length
  · have e1 : decide ((i : Int) < es.length) = true := by rw [decide_eq_true_iff]; omega
    by_cases h2 : i < 40
    · have e2 : decide ((i : Int) < 40) = true := by rw [decide_eq_true_iff]; omega
      simp only [e1, e2, go_sem]
      obtain ⟨ti, ht, hts⟩ := inf29
      obtain ⟨x, g, o, hx, _, hix, hc⟩ := (hv2.bel hb).get und23 ht hts (n := i) (by omega) (by omega)
      simp only [Int.toNat_natCast] at hx
      simp only [hix, Deed.all hc, go_sem]
      refine (k22 TB (hok2 x (List.mem_of_getElem? hx))).bind ?_
      rintro ⟨_, w5⟩ ⟨e5, c5, qv', T5, g5⟩
      simp only at e5 c5 T5
      subst e5
      have sz := hb.size
      have la' := TA.A.lt
      have fd' : ∀ k, k = c ∨ k = d → w2.heap.size ≤ k := fun k hk => by
        rcases hk with hk | hk
        · omega
        · have := fd d (.inl rfl); omega
      simp only [go_sem, Bool.not_true]
      refine .ret (.inl ⟨rfl, 40 - (i + 1), by omega, i + 1, qv', by rw [wrap_i64 (by omega) (by omega)]; rfl, by omega, by omega, rfl, ?_, ?_, ?_, ?_⟩)
      · exact (hb.thenChg c5).bel fun k hk h => by have := fd' k h; omega
      · refine TA.chg c5 (fun h => by have := fd' a h; omega) fun k hk h => ?_
        have := fd' k h
        have := l2b k hk
        omega
      · have : es.take (i + 1) = es.take i ++ [x] := by rw [List.take_add_one, hx]; rfl
        rw [this]
        unfold deedsN at T5 ⊢
        rw [List.foldl_append]
        exact T5
      · intro k hk
        have hw3 : w3.heap.size ≤ w'.heap.size ∨ True := .inr trivial
        rcases g5 k hk with h | h
        · exact hf k h
        · have := (TB.A).lt
          have l0 := F0.B.lt
          have : w3.heap.size ≤ w'.heap.size := by
            have hd := TB.B.lt d (.inl rfl)
            have := fd d (.inl rfl)
            omega
          omega
    · have e2 : decide ((i : Int) < 40) = false := by rw [decide_eq_false_iff_not]; omega
      simp only [e1, e2, go_sem]
      exact .ret (.inr ⟨by simp, fin⟩)
  · have e1 : decide ((i : Int) < es.length) = false := by rw [decide_eq_false_iff_not]; omega
    simp only [e1, go_sem]
    exact .ret (.inr ⟨by simp, fin⟩)

section laws
variable {n0 : Nat} {m k : Int} {v0 v1 : Value} {n1 : Nat} {w : World} {r0 r1 : Reach} {b0 b1 : Nat}
theorem law3 (hT : Tab w) (h1 : (Lit.int .u16 m).wf = true) (h2 : (Lit.int .u16 k).wf = true) (ho0 : Value.okWide Tryd.prog w r0 b0 23 v0) (h0 : Okc Tryd.prog w n0 23 v0.cells.toList) :
    Calls Tryd.prog 3 #[.int .u16 m, .int .u16 k, v0] w fun e w' => e = .returned (.bool true) ∧ Below w.heap.size w w' := by
  obtain ⟨a, rfl, ha⟩ := nat16 h1
  obtain ⟨b, rfl, hb⟩ := nat16 h2
  obtain ⟨ds, hv, hok⟩ := deeds ho0 h0
  exact law_of (l3 hT ha hb hv hok) fun _ => c3
theorem law5 (hT : Tab w) (h1 : (Lit.int .u16 m).wf = true) (h2 : (Lit.int .u16 k).wf = true) (ho0 : Value.okWide Tryd.prog w r0 b0 23 v0) (h0 : Okc Tryd.prog w n0 23 v0.cells.toList) :
    Calls Tryd.prog 5 #[.int .u16 m, .int .u16 k, v0] w fun e w' => e = .returned (.bool true) ∧ Below w.heap.size w w' := by
  obtain ⟨a, rfl, ha⟩ := nat16 h1
  obtain ⟨b, rfl, hb⟩ := nat16 h2
  obtain ⟨ds, hv, hok⟩ := deeds ho0 h0
  exact law_of (l5 hT ha hb hv hok) fun _ => c5
theorem law6 (hT : Tab w) (h1 : (Lit.int .u16 m).wf = true) (h2 : (Lit.int .u16 k).wf = true) (ho0 : Value.okWide Tryd.prog w r0 b0 23 v0) (h0 : Okc Tryd.prog w n0 23 v0.cells.toList) :
    Calls Tryd.prog 6 #[.int .u16 m, .int .u16 k, v0] w fun e w' => e = .returned (.bool true) ∧ Below w.heap.size w w' := by
  obtain ⟨a, rfl, ha⟩ := nat16 h1
  obtain ⟨b, rfl, hb⟩ := nat16 h2
  obtain ⟨ds, hv, hok⟩ := deeds ho0 h0
  exact law_of (l6 hT ha hb hv hok) fun _ => c6
theorem law9 (hT : Tab w) (h1 : (Lit.int .u16 m).wf = true) (h2 : (Lit.int .u16 k).wf = true) (ho0 : Value.okWide Tryd.prog w r0 b0 23 v0) (h0 : Okc Tryd.prog w n0 23 v0.cells.toList) :
    Calls Tryd.prog 9 #[.int .u16 m, .int .u16 k, v0] w fun e w' => e = .returned (.bool true) ∧ Below w.heap.size w w' := by
  obtain ⟨a, rfl, ha⟩ := nat16 h1
  obtain ⟨b, rfl, hb⟩ := nat16 h2
  obtain ⟨ds, hv, hok⟩ := deeds ho0 h0
  exact law_of (l9 hT ha hb hv hok) fun _ => c9
theorem law7 (hT : Tab w) (h1 : (Lit.int .u16 m).wf = true) (ho0 : Value.okWide Tryd.prog w r0 b0 23 v0) (h0 : Okc Tryd.prog w n0 23 v0.cells.toList) (ho1 : Value.okWide Tryd.prog w r1 b1 23 v1) (h3 : Okc Tryd.prog w n1 23 v1.cells.toList) :
    Calls Tryd.prog 7 #[.int .u16 m, v0, v1] w fun e w' => e = .returned (.bool true) ∧ Below w.heap.size w w' := by
  obtain ⟨a, rfl, ha⟩ := nat16 h1
  obtain ⟨ds, hv, hok⟩ := deeds ho0 h0
  obtain ⟨es, hv2, hok2⟩ := deeds ho1 h3
  exact law_of (l7 hT ha hv hok hv2 hok2) fun _ => c7
end laws
end Go.Proofs.YtebhknagnkcldaaDoor
