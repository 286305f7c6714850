/- Laws: each once; limits. -/
import Derived.Test.YtnnhfnjdcomjmaaEx9
namespace Go.Proofs.Ytnnhfnjdcomjmaa
open Go Go.Ev Go.RowKit
open Go.Proofs

theorem not_mem_erase {l : List Exp} (h : l.Pairwise fun x y => sameP x y = false) {i : Nat} {x : Exp} (hx : l[i]? = some x) : x ∉ l.eraseIdx i := by
  intro hm
  obtain ⟨hi, he⟩ := List.getElem?_eq_some_iff.1 hx
  have e : l = l.take i ++ (x :: l.drop (i + 1)) := by
    conv => lhs; rw [← List.take_append_drop i l, List.drop_eq_getElem_cons hi, he]
  rw [List.eraseIdx_eq_take_drop_succ] at hm
  rw [e] at h
  obtain ⟨_, h2, h3⟩ := List.pairwise_append.1 h
  rcases List.mem_append.1 hm with hm | hm
  · have := h3 x hm x (by simp)
    rw [same_self] at this; cases this
  · have := (List.pairwise_cons.1 h2).1 x hm
    rw [same_self] at this; cases this

theorem found_fits {P : Exp → Bool} {l : List Exp} {i : Nat} {x : Exp} (h : l.findIdx? P = some i) (hx : l[i]? = some x) : P x = true := by
  rw [List.findIdx?_eq_some_iff_getElem] at h
  obtain ⟨hi, hp, _⟩ := h
  rw [List.getElem?_eq_getElem hi] at hx
  injection hx with hx
  rw [← hx]; exact hp

theorem l6 {w : World} {s : Value} {ds : List Deed} {x : Deed} (hv : View Deed.cs 16 w s ds) (hok : ∀ x ∈ ds, x.ok) : Brings (s6 s x.v w) (Yes w) := by
  unfold s6
  have A := x.new w
  have hb : Bel w (w.alloc (.cells x.cs.toArray 39)) := (Bel.refl w).alloc _
  rw [x.box]
  simp only [go_sem]
  generalize w.alloc (.cells x.cs.toArray 39) = w1 at A hb
  generalize w.heap.size = p at A
  refine (k18 (hv.bel hb) hok).bind ?_
  rintro ⟨_, w2⟩ ⟨a, sa, b, sb, h1, b2, T, fa, fb⟩
  simp only at h1 b2 T
  subst h1
  simp only [go_sem]
  have inv := inv_deeds (ds.take 100) [] Inv.nil
  generalize deedsM [] (ds.take 100) = l at T inv
  refine k15.bind ?_
  rintro ⟨_, w3⟩ ⟨h1, b3⟩
  simp only at h1 b3
  subst h1
  have o3 := T.A.bel b3
  have B3 := b2.trans b3
  clear b2 b3 T
  simp only [Bool.not_true, go_sem]
  refine (k17 o3).bind ?_
  rintro ⟨vl, w4⟩ hf
  have b4 := hf.1
  simp only at b4
  have A4 := A.bel (B3.trans b4)
  simp only [(Rows.view hf).len und32, Tup.all (Deed.in2 A4), Deed.b3 A4, go_sem]
  clear hf
  have o4 := o3.bel b4
  have B4 := B3.trans b4
  clear b4
  refine (k20 o4).bind ?_
  rintro ⟨_, w5⟩ ⟨e1, b5⟩
  simp only at e1 b5
  subst e1
  have B := local_bel w5 (.cells Exp.zero.cs.toArray 25) (peekM x.t x.now l).1.cs.toArray
  have X1 := local_at w5 (peekM x.t x.now l).1.cs Exp.zero.cs 25
  simp only [alloc25, put25, go_sem]
  have B5 := (B4.trans b5).trans B
  have o5 := (o4.bel b5).bel B
  have nf1 : ¬ Foot a sa w5.heap.size := fun h => by have := o4.lt _ h; have := b5.size; omega
  clear b5 B
  generalize w5.heap.size = q1 at X1 nf1 B5 o5
  generalize (w5.alloc (.cells Exp.zero.cs.toArray 25)).setRow q1 (peekM x.t x.now l).1.cs.toArray = w6 at X1 B5 o5
  have A6 := A.bel B5
  simp only [Tup.all (Deed.in2 A6), Deed.b3 A6, go_sem]
  refine (k21 o5).bind ?_
  rintro ⟨_, w7⟩ hd
  obtain ⟨e1, c7, sl, o7, f7⟩ := hd
  simp only at e1 c7 o7
  subst e1
  have hp : p < w1.heap.size := World.block_lt_of_cell? _ _ (A 0 _ rfl)
  have B7 : Bel w1 w7 := (B5.thenChg c7).bel fun k hk h => by have := fa k h; omega
  have X1 := X1.chg c7 nf1
  have B := local_bel w7 (.cells Exp.zero.cs.toArray 25) (peekM x.t x.now l).1.cs.toArray
  have X2 := local_at w7 (peekM x.t x.now l).1.cs Exp.zero.cs 25
  simp only [alloc25, put25, go_sem]
  have B8 := B7.trans B
  have o8 := o7.bel B
  have X1 := X1.bel B
  clear B c7 B7 o7
  generalize (w7.alloc (.cells Exp.zero.cs.toArray 25)).setRow w7.heap.size (peekM x.t x.now l).1.cs.toArray = w8 at X1 X2 B8 o8
  generalize w7.heap.size = q2 at X2
  have A8 := A.bel B8
  have hB := hb.trans B8
  have nn : ∀ b : Bool, (b != b) = false := fun b => by cases b <;> rfl
  simp only [Qb_neqB (P := Try.prog) (t := 4) (by kernel_rfl), Qb_eqlB (P := Try.prog) (t := 4) (by kernel_rfl), nn, beq_self_eq_true, Exp.all X1, Exp.all X2, Exp.neq, Exp.eql, decide_true, Bool.not_true, go_sem]
  unfold peekM at X1 X2 ⊢
  rcases idx_cases (fitsP x.t x.now) l with ⟨i, y, hi, hy, hlt, e⟩ | ⟨hi, e⟩
  · rw [match_some hi hy] at X1 X2 o8 ⊢
    simp only at X1 X2 o8
    simp only [Bool.not_true, go_sem]
    refine (k17 o8).bind ?_
    rintro ⟨vm, w9⟩ hf9
    have b9 := hf9.1
    simp only at b9
    have Vm := Rows.view hf9
    simp only at Vm
    have hno := not_mem_erase inv.apart hy
    have hfit := found_fits hi hy
    have el : (l.eraseIdx i).length = l.length - 1 := List.length_eraseIdx_of_lt hlt
    have hm := inv.most
    refine Brings.loop (fun m xs w' => ∃ j : Nat, xs = [.pointer (some ⟨p, 0, none⟩), .bool false, .int .i64 l.length, .pointer (some ⟨q2, 0, none⟩), vm, .int .i64 j] ∧ j ≤ l.length - 1 ∧ m = l.length - 1 - j ∧ Bel w9 w') ?_ (l.length - 1) _ _ ⟨0, rfl, by omega, by omega, Bel.refl _⟩
    rintro m xs w' ⟨j, rfl, hj, hmj, bj⟩
    simp only [s6B0, (Vm.bel bj).len und32, el, go_sem]
    refine .cond (fun hlt' => ?_) (fun hlt' => ?_)
    · have hlt' : (j : Int) < (l.length - 1 : Nat) := by simpa using hlt'
      have bd := bj.drew
      obtain ⟨z, g, o, hz, _, hix, hc⟩ := getR (Vm.bel bd) (n := j) (by omega) (by omega)
      simp only [Int.toNat_natCast] at hz
      have hne : decide (z = y) = false := by
        rw [decide_eq_false_iff_not]
        rintro rfl
        exact hno (List.mem_of_getElem? hz)
      simp only [hix, Exp.all hc, Exp.all (X2.bel (b9.trans bd)), Exp.eql, hne, go_sem]
      exact .ret (.inl ⟨rfl, l.length - 1 - (j + 1), by omega, j + 1, by rw [wrap_i64 (by omega) (by omega)]; rfl, by omega, rfl, bd⟩)
    · refine .ret (.inr ⟨by simp, ?_⟩)
      have Y := X2.bel (b9.trans bj)
      have D := A8.bel (b9.trans bj)
      have T := Deed.in2 D
      unfold fitsP at hfit
      simp only [Bool.and_eq_true, beq_iff_eq, decide_eq_true_eq, Bool.or_eq_true] at hfit
      obtain ⟨⟨⟨⟨q0, q1⟩, q2'⟩, q3⟩, q4⟩ := hfit
      simp only [s6R0, (Vm.bel bj).len und32, el, go_sem]
      rw [wrap_i64 (by omega) (by omega)]
      have : (((l.length - 1 : Nat) : Int) == (l.length : Int) - 1) = true := by rw [beq_iff_eq]; omega
      simp only [this, Exp.b0 Y, Tup.f0 T, q1, beq_self_eq_true, Exp.b2 Y, Tup.f2 T, q2', Exp.b4 Y, Tup.f4 T, q3, Exp.b1 Y, Tup.f1 T, go_sem]
      rcases q0 with q0 | q0
      · simp only [q0, beq_self_eq_true, Exp.b8 Y, Deed.b3 D, go_sem, decide_eq_true q4]
        exact .ret ⟨rfl, (hB.trans b9).trans bj⟩
      · cases h0 : y.src == 0 <;> simp only [q0, beq_self_eq_true, Exp.b1 Y, Tup.f1 T, Exp.b8 Y, Deed.b3 D, go_sem, decide_eq_true q4]
        · exact .ret ⟨rfl, (hB.trans b9).trans bj⟩
        · exact .ret ⟨rfl, (hB.trans b9).trans bj⟩
  · rw [match_none hi] at o8 ⊢
    simp only at o8
    simp only [Bool.not_false, go_sem]
    refine (k17 o8).bind ?_
    rintro ⟨vm, w9⟩ hf9
    simp only [(Rows.view hf9).len und32, beq_self_eq_true, go_sem]
    exact .ret ⟨rfl, hB.trans hf9.1⟩

theorem law6 {v0 v1 : Value} {n0 n1 : Nat} {w : World} {r0 r1 : Reach} {b0 b1 : Nat} (ho0 : Value.okWide Try.prog w r0 b0 35 v0) (h0 : Okc Try.prog w n0 35 v0.cells.toList) (ho1 : Value.okWide Try.prog w r1 b1 39 v1) (h1 : Okc Try.prog w n1 39 v1.cells.toList) :
    Calls Try.prog 6 #[v0, v1] w fun e w' => e = .returned (.bool true) ∧ Below w.heap.size w w' := by
  obtain ⟨ds, hv, hok⟩ := deeds ho0 h0
  obtain ⟨x, rfl, hx⟩ := open39 ho1 h1
  exact law_of (l6 hv hok) fun _ => c6

/-! ## Limits -/

theorem m7 {w : World} {v : Value} {l : List Exp} {i k : Nat} {x y : Exp} {own : Int} (hv : View Exp.cs 9 w v l) (hx : l[i]? = some x) (hy : l[k]? = some y) (hn : k ≠ i → sameP x y = false) (hl : l.length ≤ 32) :
    Brings (s7M2 (.bool false) v (.int .i64 i) (.int .i64 own) (.int .i64 k) w) (fun r => r = (.normal, [.bool false, v, .int .i64 i, .int .i64 own, .int .i64 ((k + 1 : Nat) : Int)], w.drew)) := by
  unfold s7M2
  have hi := (List.getElem?_eq_some_iff.1 hx).1
  have hk := (List.getElem?_eq_some_iff.1 hy).1
  have hv := hv.bel (Bel.refl w).drew
  generalize w.drew = w1 at hv
  obtain ⟨x', g, o, hx', _, hix, hc⟩ := getR hv (n := i) (by omega) (by omega)
  obtain ⟨y', g', o', hy', _, hiy, hd⟩ := getR hv (n := k) (by omega) (by omega)
  rw [Int.toNat_natCast, hx] at hx'
  rw [Int.toNat_natCast, hy] at hy'
  injection hx' with hx'
  injection hy' with hy'
  subst hx' hy'
  simp only [go_sem]
  rw [wrap_i64 (by omega) (by omega), show (k : Int) + 1 = ((k + 1 : Nat) : Int) from rfl]
  by_cases e : k = i
  · have : ((k : Int) != (i : Int)) = false := by simp [e]
    simp only [this, go_sem]
    exact .ret rfl
  · have : ((k : Int) != (i : Int)) = true := by simp; omega
    have hs := hn e
    unfold sameP at hs
    simp only [this, hix, hiy, Exp.f0 hc, Exp.f0 hd, go_sem]
    cases c0 : y.proto == x.proto <;> simp only [go_sem, hix, hiy, Exp.f2 hc, Exp.f2 hd]
    · exact .ret rfl
    cases c2 : y.dst == x.dst <;> simp only [go_sem, hix, hiy, Exp.f4 hc, Exp.f4 hd]
    · exact .ret rfl
    cases c4 : y.dstPort == x.dstPort <;> simp only [go_sem]
    · exact .ret rfl
    · rw [c0, c2, c4] at hs; cases hs

theorem l7 {w : World} {s : Value} {ds : List Deed} (hv : View Deed.cs 16 w s ds) (hok : ∀ x ∈ ds, x.ok) : Brings (s7 s w) (Yes w) := by
  unfold s7
  refine (k18 hv hok).bind ?_
  rintro ⟨_, w2⟩ ⟨a, sa, b, sb, h1, b2, T, fa, fb⟩
  simp only at h1 b2 T
  subst h1
  simp only [go_sem]
  have inv := inv_deeds (ds.take 100) [] Inv.nil
  generalize deedsM [] (ds.take 100) = l at T inv
  refine k15.bind ?_
  rintro ⟨_, w3⟩ ⟨h1, b3⟩
  simp only at h1 b3
  subst h1
  simp only [Bool.not_true, go_sem]
  refine (k17 (T.A.bel b3)).bind ?_
  rintro ⟨vl, w4⟩ hf
  have b4 := hf.1
  have V := Rows.view hf
  simp only at b4 V
  have B4 := (b2.trans b3).trans b4
  have hm := inv.most
  refine Brings.loop (fun m xs w' => ∃ i : Nat, xs = [.bool false, vl, .int .i64 i] ∧ i ≤ l.length ∧ m = l.length - i ∧ Bel w4 w') ?_ l.length _ _ ⟨0, rfl, by omega, by omega, Bel.refl _⟩
  rintro m xs w' ⟨i, rfl, hi, hmi, bi⟩
  simp only [s7B0, (V.bel bi).len und32, go_sem]
  refine .cond (fun hlt => ?_) (fun hlt => ?_)
  · have hlt : i < l.length := by
      have : (i : Int) < l.length := by simpa using hlt
      omega
    obtain ⟨x, hx⟩ : ∃ x, l[i]? = some x := ⟨l[i], by simp [hlt]⟩
    refine Brings.loop (fun n xs w' => ∃ k : Nat, xs = [.bool false, vl, .int .i64 i, .int .i64 (((l.take k).filter (masterP x.master)).length : Nat), .int .i64 k] ∧ k ≤ l.length ∧ n = l.length - k ∧ Bel w4 w') ?_ l.length _ _ ⟨0, rfl, by omega, by omega, bi⟩
    rintro n xs w5 ⟨k, rfl, hk, hnk, bk⟩
    have V5 := V.bel bk
    simp only [s7B1, V5.len und32, go_sem]
    refine .cond (fun hlt' => ?_) (fun hlt' => ?_)
    · have hlt' : k < l.length := by
        have : (k : Int) < l.length := by simpa using hlt'
        omega
      have bd := bk.drew
      have V6 := V.bel bd
      generalize w5.drew = w6 at bd V6
      obtain ⟨y, g', o', hy, _, hiy, hd⟩ := getR V6 (n := k) (by omega) (by omega)
      obtain ⟨x', g, o, hx', _, hix, hc⟩ := getR V6 (n := i) (by omega) (by omega)
      rw [Int.toNat_natCast, hx] at hx'
      injection hx' with hx'
      subst hx'
      simp only [Int.toNat_natCast] at hy
      have hne : k ≠ i → sameP x y = false := fun h => by
        rcases Nat.lt_or_gt_of_ne h with h | h
        · rw [same_comm]
          have := List.pairwise_iff_getElem.1 inv.apart k i hlt' hlt h
          rw [List.getElem?_eq_getElem hlt'] at hy; injection hy with hy
          rw [List.getElem?_eq_getElem hlt] at hx; injection hx with hx
          rw [hy, hx] at this; exact this
        · have := List.pairwise_iff_getElem.1 inv.apart i k hlt hlt' h
          rw [List.getElem?_eq_getElem hlt'] at hy; injection hy with hy
          rw [List.getElem?_eq_getElem hlt] at hx; injection hx with hx
          rw [hy, hx] at this; exact this
      have cnt : (l.take (k + 1)).filter (masterP x.master) = (l.take k).filter (masterP x.master) ++ [y].filter (masterP x.master) := by
        rw [List.take_add_one, hy, List.filter_append]; rfl
      have lenk : ((l.take k).filter (masterP x.master)).length ≤ l.length := Nat.le_trans (List.length_filter_le _ _) (by simp; omega)
      simp only [hix, hiy, Exp.f7 hc, Exp.f7 hd, go_sem]
      refine .cond (fun he => ?_) (fun he => ?_)
      · have c1 : ((l.take (k + 1)).filter (masterP x.master)).length = ((l.take k).filter (masterP x.master)).length + 1 := by
          rw [cnt, List.filter_cons_of_pos (by exact he)]; simp
        rw [wrap_i64 (by omega) (by omega)]
        refine (m7 V6 hx hy hne hm).mono ?_
        rintro _ rfl
        exact .inl ⟨rfl, l.length - (k + 1), by omega, k + 1, by rw [c1]; rfl, by omega, rfl, bd.drew⟩
      · have c1 : (l.take (k + 1)).filter (masterP x.master) = (l.take k).filter (masterP x.master) := by
          rw [cnt, List.filter_cons_of_neg (by unfold masterP; rw [he]; decide)]; simp
        refine (m7 V6 hx hy hne hm).mono ?_
        rintro _ rfl
        exact .inl ⟨rfl, l.length - (k + 1), by omega, k + 1, by rw [c1], by omega, rfl, bd.drew⟩
    · have : k = l.length := by
        have : ¬ (k : Int) < l.length := by simpa using hlt'
        omega
      subst this
      refine .ret (.inr ⟨by simp, ?_⟩)
      rw [List.take_length]
      have ow := inv.own x.master
      have : decide ((4 : Int) < (((l.filter (masterP x.master)).length : Nat) : Int)) = false := by rw [decide_eq_false_iff_not]; omega
      simp only [s7R1, go_sem, this]
      exact .ret (.inl ⟨rfl, l.length - (i + 1), by omega, i + 1, by rw [wrap_i64 (by omega) (by omega)]; rfl, by omega, rfl, bk⟩)
  · refine .ret (.inr ⟨by simp, ?_⟩)
    have : decide ((l.length : Int) ≤ 32) = true := by rw [decide_eq_true_iff]; omega
    simp only [s7R0, (V.bel bi).len und32, go_sem, this]
    exact .ret ⟨rfl, B4.trans bi⟩

theorem law7 {v0 : Value} {n0 : Nat} {w : World} {r0 : Reach} {b0 : Nat} (ho0 : Value.okWide Try.prog w r0 b0 35 v0) (h0 : Okc Try.prog w n0 35 v0.cells.toList) :
    Calls Try.prog 7 #[v0] w fun e w' => e = .returned (.bool true) ∧ Below w.heap.size w w' := by
  obtain ⟨ds, hv, hok⟩ := deeds ho0 h0
  exact law_of (l7 hv hok) fun _ => c7

end Go.Proofs.Ytnnhfnjdcomjmaa
