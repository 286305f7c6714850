/- The pool: what is taken; how many are not. -/
import Derived.Test.YtebhknagnkcldaaDoorPo3
namespace Go.Proofs.YtebhknagnkcldaaDoor
open Go Go.Ev Go.RowKit
open Go.Proofs

theorem u64w (n : Int) : IntKind.u64.wrap n = n % 18446744073709551616 := by
  unfold IntKind.wrap
  simp [IntKind.signed, IntKind.bits]
theorem tab_at {w : World} (h : Tab w) {i : Nat} (hi : i < 64) : Qload Tryd.prog 5 (.pointer (some ⟨0, i, none⟩)) w = some (.int .u8 (tab.getD i 0)) := Qload_cell one5 (h i hi)
theorem Tab.bel {w w' : World} (h : Tab w) (hb : Bel w w') : Tab w' := fun i hi => hb.cell_some (h i hi)
theorem at63 {j : Nat} {k : IntKind} (w : World) (hj : j < 64) : QindexAddr Tryd.prog 63 (.pointer (some ⟨0, 0, none⟩)) (.int k (j : Int)) w = some (.pointer (some ⟨0, j, none⟩)) := by
  obtain ⟨i, hi, hs⟩ := (⟨(Tryd.prog.info? 5).get (by kernel_rfl), by kernel_rfl, by kernel_rfl⟩ : ∃ i, Tryd.prog.info? 5 = some i ∧ i.size = 1)
  have := QindexAddr_array (w := w) (g := 0) (o := 0) (k := k) Tryd.underlying63 hi hs hj
  rwa [Nat.zero_add] at this

theorem k29 {w : World} {x t : Nat} (hT : Tab w) (h0 : x ≠ 0) (hx : x < 2 ^ 64) (ht : t < 64) (hlow : x &&& (2 ^ 64 - x) = 2 ^ t) : Brings (Xcall Tryd.prog (Value.func (Fn.func 29) #[] #[]) #[wordV x] w) (fun r => r = (.int .i64 (t : Int), w)) := by
  refine e29 ?_
  unfold s29 wordV
  have e1 : ((x : Int) == 0) = false := by simpa using h0
  have p64 : 2 ^ t < 2 ^ 64 := Nat.pow_lt_pow_right (by omega) ht
  have ng : Qun .neg (.int .u64 (x : Int)) = some (.int .u64 ((2 ^ 64 - x : Nat) : Int)) := by
    rw [Qun_neg, u64w]
    have : (0 - (x : Int)) % 18446744073709551616 = ((2 ^ 64 - x : Nat) : Int) := by omega
    rw [this]
  have an : Qbin Tryd.prog .and 50 (.int .u64 (x : Int)) (.int .u64 ((2 ^ 64 - x : Nat) : Int)) = some (wordV (2 ^ t)) := by
    rw [Qb_and, iand_u (k := .u64) rfl hx (show 2 ^ 64 - x < 2 ^ IntKind.u64.bits by show 2 ^ 64 - x < 2 ^ 64; omega), hlow]
    rfl
  have ml : Qbin Tryd.prog .mul 50 (wordV (2 ^ t)) (.int .u64 285870213051353865) = some (wordV (2 ^ t * 285870213051353865 % 2 ^ 64)) := by
    unfold wordV
    rw [Qb_mul, u64w]
    have : ((2 ^ t : Nat) : Int) * 285870213051353865 % 18446744073709551616 = ((2 ^ t * 285870213051353865 % 2 ^ 64 : Nat) : Int) := by omega
    rw [this]
  have sh : Qbin Tryd.prog .shr 50 (wordV (2 ^ t * 285870213051353865 % 2 ^ 64)) (.int .u64 58) = some (.int .u64 ((2 ^ t * 285870213051353865 % 2 ^ 64 / 2 ^ 58 : Nat) : Int)) := by
    unfold wordV
    rw [Qb_shr (by omega)]
    exact congrArg (fun z => some (Value.int .u64 z)) (shr_nat _ _)
  obtain ⟨tb, tl⟩ := tab_low t ht
  have cv : Qconv Tryd.prog 5 3 (.int .u8 (t : Int)) = some (.int .i64 (t : Int)) := by rw [Qconv_int (k := .i64) (by kernel_rfl), wrap_i64 (by omega) (by omega)]
  simp only [e1, ng, an, ml, sh, at63 w tl, tab_at hT tl, tb, cv, go_sem]
  exact .ret rfl

def toI (l : List Nat) : List Int := l.map fun n : Nat => (n : Int)
theorem toI_len (l : List Nat) : (toI l).length = l.length := List.length_map _
theorem toI_add (l m : List Nat) : toI (l ++ m) = toI l ++ toI m := List.map_append

theorem asc_len' : ∀ {U : List Nat} {a b : Nat}, Asc U → (∀ u ∈ U, a ≤ u ∧ u < b) → U.length ≤ b - a
  | [], _, _, _, _ => Nat.zero_le _
  | x :: U, a, b, h, hb => by
    obtain ⟨h1, h2⟩ := List.pairwise_cons.1 h
    have := asc_len' (a := x + 1) (b := b) h2 fun u hu => ⟨h1 u hu, (hb u (by simp [hu])).2⟩
    have := hb x (by simp)
    rw [List.length_cons]
    omega
theorem asc_len {U : List Nat} (h : Asc U) {b : Nat} (hb : ∀ u ∈ U, u < b) : U.length ≤ b := asc_len' (a := 0) h fun u hu => ⟨Nat.zero_le _, hb u hu⟩

theorem k17 {w : World} {a lo hi : Nat} {U : List Nat} (hT : Tab w) (h : Pl w a lo hi U) : Brings (Xcall Tryd.prog (Value.func (Fn.func 17) #[] #[]) #[.pointer (some ⟨a, 0, none⟩)] w) (fun r => FreshN 22 .u16 w r.2 r.1 (toI U)) := by
  refine e17 ?_
  unfold s17
  obtain ⟨hb, W, hW, ha⟩ := h
  have hU : ∀ u ∈ U, u < 65536 := fun u hu => by have := hb.mem u hu; have := hb.hi1; omega
  have hUl : U.length ≤ 65536 := asc_len hb.asc hU
  obtain ⟨i51, hi51, hs51⟩ := inf51
  have hc : CellsAt (W.map wordV) w a 2 := by
    have h0 : CellsAt (plCs lo hi W) w a 0 := CellsAt.of ha
    intro j v hj
    have := h0 (2 + j) v (by
      unfold plCs
      rw [List.getElem?_append_right (by simp)]
      simpa using hj)
    rwa [Nat.zero_add] at this
  have ld : Qload Tryd.prog 51 (.pointer (some ⟨a, 2, none⟩)) w = some (.agg (W.map wordV).toArray) := Qload_array und51 hi51 (by rw [hs51, List.length_map, hW.len]) hc
  simp only [go_sem, Qb_eqlP (P := Tryd.prog) (t := 24) (e := 53) ptr24, Option.isNone_some, fa53x2, ld]
  refine Brings.loop (fun m xs w' => ∃ (i : Nat) (v : Value), xs = [v, .agg (W.map wordV).toArray, .int .i64 (i : Int)] ∧ i ≤ 1024 ∧ m = 1024 - i ∧ FreshN 22 .u16 w w' v (toI (U.filter fun k => decide (k < 64 * i)))) ?_ 1024 _ _
    ⟨0, _, rfl, by omega, by omega, by
      have : (U.filter fun k => decide (k < 64 * 0)) = [] := by
        rw [List.filter_eq_nil_iff]
        intro k _
        simp
      rw [this]
      exact FreshN.start w⟩
  rintro m xs w' ⟨i, v, rfl, hi', hm, F⟩
  simp only [s17B0, go_sem]
  refine .cond (fun hlt => ?_) (fun hlt => ?_)
  · have hlt : i < 1024 := by
      have : (i : Int) < 1024 := by simpa using hlt
      omega
    obtain ⟨y, hy, hy2, hy3⟩ := hW.at_ hlt
    obtain ⟨i50, hi50, hs50⟩ := inf50
    have qx : ∀ w2, Qindex Tryd.prog 51 (.agg (W.map wordV).toArray) (.int .i64 (i : Int)) w2 = some (wordV y) := fun w2 => Qindex_array und51 ⟨.u64, by kernel_rfl⟩ hi50 hs50 hlt (by simp [hy])
    have ybit : ∀ k, k < 64 → y.testBit k = decide (64 * i + k ∈ U) := fun k hk => by
      have := hW.bit (64 * i + k) (by omega)
      rw [show (64 * i + k) / 64 = i by omega, show (64 * i + k) % 64 = k by omega, hy2] at this
      exact this
    simp only [qx, go_sem]
    refine Brings.loop (fun r xs w2 => ∃ (t x : Nat) (v2 : Value), xs = [v2, .int .i64 (i : Int), wordV x, .agg (W.map wordV).toArray, .int .i64 (i : Int)] ∧ t ≤ 64 ∧ r = 64 - t ∧ x < 2 ^ 64 ∧ (∀ k, x.testBit k = (y.testBit k && decide (t ≤ k))) ∧ FreshN 22 .u16 w w2 v2 (toI (U.filter fun k => decide (k < 64 * i + t)))) ?_ 64 _ _
      ⟨0, y, v, rfl, by omega, by omega, hy3, fun k => by simp, by simpa using F⟩
    rintro r xs w2 ⟨t, x, v2, rfl, ht, hr, hx, hbit, F2⟩
    simp only [s17B1, wordV, go_sem]
    refine .cond (fun hne => ?_) (fun hne => ?_)
    · have h0 : x ≠ 0 := by
        intro e
        subst e
        simp at hne
      obtain ⟨q, q1, q2, q3, q4, q5⟩ := low_bit h0 hx
      have hq := hbit q
      rw [q2] at hq
      have hq' := hq.symm
      rw [Bool.and_eq_true, decide_eq_true_eq] at hq'
      have hqU : 64 * i + q ∈ U := by
        have := ybit q q1
        rw [hq'.1] at this
        simpa using this.symm
      have m1 : IntKind.i64.wrap (64 * (i : Int)) = ((64 * i : Nat) : Int) := by rw [wrap_i64 (by omega) (by omega)]; omega
      simp only [m1]
      refine (k29 (hT.bel F2.1) h0 hx q1 q5).bind ?_
      rintro _ rfl
      have m2 : IntKind.i64.wrap (((64 * i : Nat) : Int) + (q : Int)) = ((64 * i + q : Nat) : Int) := by rw [wrap_i64 (by omega) (by omega)]; omega
      have cv : Qconv Tryd.prog 3 22 (.int .i64 ((64 * i + q : Nat) : Int)) = some (.int .u16 ((64 * i + q : Nat) : Int)) := by
        rw [Qconv_int (k := .u16) (by kernel_rfl), wrap_u rfl (show 64 * i + q < 2 ^ IntKind.u16.bits by show 64 * i + q < 65536; omega)]
      have hno : ∀ k, 64 * i + t ≤ k → k < 64 * i + q → k ∉ U := fun k h1 h2 hk => by
        have e1 := ybit (k - 64 * i) (by omega)
        rw [show 64 * i + (k - 64 * i) = k by omega, decide_eq_true hk] at e1
        have e2 := hbit (k - 64 * i)
        rw [e1, q3 _ (by omega)] at e2
        have : decide (t ≤ k - 64 * i) = true := by rw [decide_eq_true_iff]; omega
        rw [this] at e2
        cases e2
      have hfl : (toI (U.filter fun k => decide (k < 64 * i + t))).length ≤ 900000 := by
        rw [toI_len]
        exact Nat.le_trans (List.length_filter_le _ _) (by omega)
      obtain ⟨s1, w3, e3, v3, w4, e4, F4, _⟩ := F2.push t33 ((64 * i + q : Nat) : Int) hfl
      have sb : Qbin Tryd.prog .sub 50 (.int .u64 (x : Int)) (.int .u64 1) = some (wordV (x - 1)) := by
        have hx1 : 1 ≤ x := by omega
        rw [Qb_sub, u64w]
        have : ((x : Int) - 1) % 18446744073709551616 = ((x - 1 : Nat) : Int) := by omega
        rw [this]; rfl
      have an : Qbin Tryd.prog .and 50 (.int .u64 (x : Int)) (wordV (x - 1)) = some (wordV (x &&& (x - 1))) := by
        unfold wordV
        rw [Qb_and, iand_u (k := .u64) rfl hx (show x - 1 < 2 ^ IntKind.u64.bits by show x - 1 < 2 ^ 64; omega)]
      simp only [m2, cv, e3, e4, go_sem]
      have sb' : IntKind.u64.wrap ((x : Int) - 1) = ((x - 1 : Nat) : Int) := by
        rw [u64w]
        omega
      have an' : iand .u64 (x : Int) ((x - 1 : Nat) : Int) = ((x &&& (x - 1) : Nat) : Int) := iand_u (k := .u64) rfl hx (show x - 1 < 2 ^ IntKind.u64.bits by show x - 1 < 2 ^ 64; omega)
      rw [sb', an']
      refine .ret (.inl ⟨rfl, 64 - (q + 1), by omega, q + 1, x &&& (x - 1), v3, rfl, by omega, rfl, Nat.lt_of_le_of_lt Nat.and_le_left hx, fun k => ?_, ?_⟩)
      · rw [q4, hbit, Bool.and_assoc]
        have : (decide (t ≤ k) && decide (q < k)) = decide (q + 1 ≤ k) := by
          by_cases c : q < k
          · have h1 : decide (t ≤ k) = true := by rw [decide_eq_true_iff]; omega
            have h2 : decide (q + 1 ≤ k) = true := by rw [decide_eq_true_iff]; omega
            rw [h1, h2, decide_eq_true c]; rfl
          · have h2 : decide (q + 1 ≤ k) = false := by rw [decide_eq_false_iff_not]; omega
            rw [h2, decide_eq_false c, Bool.and_false]
        rw [this]
      · have := below_step (n := 64 * i + q) (a := 64 * i + t) hb.asc (by omega) hqU hno
        rw [show 64 * i + (q + 1) = 64 * i + q + 1 from rfl, this, toI_add]
        exact F4
    · have h0 : x = 0 := by
        have : ((x : Int) != 0) = false := hne
        simp at this
        exact this
      subst h0
      have m3 : IntKind.i64.wrap ((i : Int) + 1) = ((i + 1 : Nat) : Int) := by rw [wrap_i64 (by omega) (by omega)]; rfl
      refine .ret (.inr ⟨by simp, ?_⟩)
      simp only [s17R1, go_sem]
      rw [m3]
      refine .ret (.inl ⟨rfl, 1024 - (i + 1), by omega, i + 1, v2, rfl, by omega, rfl, ?_⟩)
      have : (U.filter fun k => decide (k < 64 * (i + 1))) = U.filter fun k => decide (k < 64 * i + t) := below_same (by omega) fun k h1 h2 hk => by
        have e1 := ybit (k - 64 * i) (by omega)
        rw [show 64 * i + (k - 64 * i) = k by omega, decide_eq_true hk] at e1
        have e2 := hbit (k - 64 * i)
        have : decide (t ≤ k - 64 * i) = true := by rw [decide_eq_true_iff]; omega
        rw [e1, this, Nat.zero_testBit] at e2
        cases e2
      rw [this]
      exact F2
  · have : i = 1024 := by
      have : ¬ (i : Int) < 1024 := by simpa using hlt
      omega
    subst this
    refine .ret (.inr ⟨by simp, .ret ?_⟩)
    rw [below_all hU] at F
    exact F

theorem k14 {w : World} {a lo hi : Nat} {U : List Nat} (hT : Tab w) (h : Pl w a lo hi U) : Brings (Xcall Tryd.prog (Value.func (Fn.func 14) #[] #[]) #[.pointer (some ⟨a, 0, none⟩)] w) (fun r => r.1 = .int .i64 ((hi : Int) - lo + 1 - U.length) ∧ Bel w r.2) := by
  refine e14 ?_
  unfold s14
  have bd : Bel w w.drew := (Bel.refl _).drew
  have h2 := h.bel bd
  obtain ⟨hb, W, hW, ha⟩ := h2
  have hU : ∀ u ∈ U, u < 65536 := fun u hu => by have := hb.mem u hu; have := hb.hi1; omega
  have hUl : U.length ≤ 65536 := asc_len hb.asc hU
  have := hb.hi1
  have := hb.le
  simp only [go_sem, Qb_eqlP (P := Tryd.prog) (t := 24) (e := 53) ptr24, Option.isNone_some, fa53x0, fa53x1, pl_lo ha, pl_hi ha]
  rw [wrap_i64 (n := (hi : Int) - lo) (by omega) (by omega), wrap_i64 (n := (hi : Int) - lo + 1) (by omega) (by omega)]
  refine (k17 (hT.bel bd) (h.bel bd)).bind ?_
  rintro ⟨v, w'⟩ F
  simp only at F
  have ha' := F.1.at_ ha
  simp only [t33.len F.2.1.view, toI_len, pl_lo ha', pl_hi ha', eq_self, and_self, go_sem]
  rw [wrap_i64 (n := (hi : Int) - lo + 1 - U.length) (by omega) (by omega)]
  exact .ret ⟨rfl, bd.trans F.1⟩

end Go.Proofs.YtebhknagnkcldaaDoor
