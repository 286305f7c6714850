/- Laws of the pool: each once; ports. -/
import Derived.Test.YtebhknagnkcldaaDoorPo11
namespace Go.Proofs.YtebhknagnkcldaaDoor
open Go Go.Ev Go.RowKit
open Go.Proofs

/-- A number is appended to a row of one's own. -/
theorem pushN {P : Program} {t e : TypeId} {k : IntKind} {w : World} {v : Value} {l : List Int} (T : NumTy P t e k) (h : OwnN e k w v l) (n : Int) (hl : l.length ≤ 900000) :
    ∃ s w1, XbuildSlice P t 1 #[(0, .int k n)] w = some (s, w1) ∧ ∃ v' w', Xbi P .append #[t, t] t #[v, s] w1 = some (v', w') ∧ OwnN e k w' v' (l ++ [n]) ∧ Chg (fun q => v.ownBlock = some q) w w' ∧ ∀ q, v'.ownBlock = some q → v.ownBlock = some q ∨ w.heap.size ≤ q := by
  have b1 : Bel w (w.alloc (.cells #[.int k n] e)) := (Bel.refl w).alloc _
  have hv : View (nc k) 1 (w.alloc (.cells #[.int k n] e)) (.slice (some ⟨w.heap.size, 0, none⟩) 1 1) [n] :=
    ⟨some ⟨w.heap.size, 0, none⟩, 1, rfl, Nat.le_refl _, by simp [maxLen], fun h => (by cases h), fun j y hj => by
      match j, hj with
      | 0, hj =>
        injection hj with hj
        subst hj
        exact ⟨w.heap.size, 0, rfl, CellsAt.of (MapKept.heap_alloc w _).1⟩
      | j + 1, hj => simp at hj⟩
  obtain ⟨i, hi, hz, hs, hb⟩ := T.info
  obtain ⟨v', w', e1, e2, e3, e4⟩ := Xappend (f := nc k) (ty := t) T.und hi hz hs rfl rfl (by omega) (h.bel b1) hv (fun _ _ => rfl) (fun y _ u hu => by simp [nc] at hu; subst hu; rfl) (by
    have : (l.length + [n].length) * i.bytes ≤ 1000000 * 8 := Nat.mul_le_mul (by simp; omega) hb
    omega) (by simp only [maxLen, List.length_singleton]; omega)
  refine ⟨_, _, T.lit n w, v', w', e1, e2, b1.thenChg ((Chg.of_grown e3).mono fun q _ hq => hq.symm), fun q hq => (e4 q hq).imp id fun h => ?_⟩
  have := b1.size
  omega

theorem l4 {w : World} {low size : Nat} {s : Value} {ws : List Int} (hT : Tab w) (hl : low < 65536) (hs : size < 65536) (hv : View (nc .u16) 1 w s ws) (hok : ∀ m ∈ ws, (Lit.int .u16 m).wf = true) : Brings (s4 (.int .u16 (low : Int)) (.int .u16 (size : Int)) s w) (Yes w) := by
  unfold s4
  refine (k11 (s := .slice none 0 0) (ds := []) hl hs View.nil (by simp)).bind ?_
  rintro ⟨_, w1⟩ ⟨a, b, sv, e1, b1, T, fa, fb⟩
  simp only at e1 b1 T
  subst e1
  generalize (rangeN low size).1 = lo at T
  generalize (rangeN low size).2 = hi at T
  have T : Two w1 a b sv lo hi [] := T
  simp only [Qext_0, Qext_1, Qext_2, bind_some']
  have hB0 := T.A.1
  have hh := hB0.hi1
  have hle := hB0.le
  refine (k14 (hT.bel b1) T.A).bind ?_
  rintro ⟨_, w2⟩ ⟨e2, b2⟩
  simp only at e2 b2
  subst e2
  have h63 := hv.small
  simp only [maxLen] at h63
  simp only [List.length_nil]
  have la := T.A.lt
  refine Brings.loop (fun m xs w' => ∃ (i : Nat) (v : Value) (U g : List Nat), xs = [s, .bool false, .pointer (some ⟨a, 0, none⟩), .int .i64 ((hi : Int) - lo + 1 - (0 : Nat)), v, .int .i64 (i : Int)] ∧ i ≤ ws.length ∧ i ≤ 100 ∧ m = 100 - i ∧ Bel w w' ∧ Pl w' a lo hi U ∧ OwnN 22 .u16 w' v (toI g) ∧ (∀ q, v.ownBlock = some q → q ≠ a ∧ w.heap.size ≤ q) ∧ g.length = U.length ∧ g.length ≤ i ∧ (∀ x ∈ g, x ∈ U)) ?_ 100 _ _
    ⟨0, _, [], [], rfl, by omega, by omega, by omega, b1.trans b2, T.A.bel b2, OwnN.nil _, (fun q hq => by cases hq), rfl, Nat.le_refl _, by simp⟩
  rintro m xs w' ⟨i, v, U, g, rfl, hi', hi100, hm, hb, hP, hO, hq, hgl, hgi, hgU⟩
  have hB := hP.1
  have la' := hP.lt
  simp only [s4B0, t33.len hv, go_sem]
  have fin : Brings (s4R0 (.exit 0) [s, .bool false, .pointer (some ⟨a, 0, none⟩), .int .i64 ((hi : Int) - lo + 1 - (0 : Nat)), v, .int .i64 (i : Int)] w') (Yes w) := by
    unfold s4R0
    refine (k12 (hT.bel hb)).bind ?_
    rintro ⟨_, w5⟩ ⟨e5, b5⟩
    simp only at e5 b5
    subst e5
    simp only [go_sem]
    refine (k14 (hT.bel (hb.trans b5)) (hP.bel b5)).bind ?_
    rintro ⟨_, w6⟩ ⟨e6, b6⟩
    simp only at e6 b6
    subst e6
    have O6 := (hO.bel b5).bel b6
    have e0 : ((hi : Int) - lo + 1 - U.length == (hi : Int) - lo + 1 - (0 : Nat) - g.length) = true := by rw [beq_iff_eq]; omega
    simp only [go_sem, t33.len O6.view, toI_len]
    rw [wrap_i64 (n := (hi : Int) - lo + 1 - (0 : Nat) - g.length) (by omega) (by omega)]
    simp only [go_sem, e0]
    refine (k17 (hT.bel ((hb.trans b5).trans b6)) ((hP.bel b5).bel b6)).bind ?_
    rintro ⟨u, w7⟩ F7
    simp only at F7
    have O7 := O6.bel F7.1
    have e1 : ((U.length : Int) == (g.length : Int)) = true := by rw [beq_iff_eq]; omega
    simp only [go_sem, t33.len F7.2.1.view, t33.len O7.view, toI_len, e1]
    exact .ret ⟨rfl, ((hb.trans b5).trans b6).trans F7.1⟩
  by_cases h1 : i < ws.length
  · have e1 : decide ((i : Int) < ws.length) = true := by rw [decide_eq_true_iff]; omega
    by_cases h2 : i < 100
    · have e2 : decide ((i : Int) < 100) = true := by rw [decide_eq_true_iff]; omega
      obtain ⟨x, q, hx, hix, hld⟩ := t33.get (hv.bel hb) h1
      obtain ⟨n, rfl, hn⟩ := nat16 (hok x (List.mem_of_getElem? hx))
      have wr : IntKind.i64.wrap ((i : Int) + 1) = ((i + 1 : Nat) : Int) := by rw [wrap_i64 (by omega) (by omega)]; rfl
      simp only [e1, e2, hix, hld, go_sem]
      refine (k15 hP hn).bind ?_
      rintro ⟨_, w3⟩ ⟨e3, c3, p3⟩
      simp only at e3 c3 p3
      subst e3
      have b3 : Bel w w3 := (hb.thenChg c3).bel fun k hk e => by omega
      have O3 := hO.chg c3 fun q hq' e => (hq q hq').1 e
      by_cases z : takenN lo hi U n 1 = 0
      · rw [take_err z] at p3 ⊢
        simp only at p3
        simp only [go_sem, show ((9 : Int) != 0) = true from rfl]
        refine (k14 (hT.bel b3) p3).bind ?_
        rintro ⟨_, w4⟩ ⟨e4, b4⟩
        simp only at e4 b4
        subst e4
        have O4 := O3.bel b4
        have fl := full_len hB (none_full hB (taken_none hB z))
        have e5 : ((hi : Int) - lo + 1 - U.length != 0) = false := by rw [bne_eq_false_iff_eq]; omega
        have e6 : ((g.length : Int) != (hi : Int) - lo + 1 - (0 : Nat)) = false := by rw [bne_eq_false_iff_eq]; omega
        simp only [go_sem, e5, t33.len O4.view, toI_len, e6, wr]
        exact .ret (.inl ⟨rfl, 100 - (i + 1), by omega, i + 1, v, U, g, rfl, by omega, by omega, rfl, b3.trans b4, p3.bel b4, O4, hq, hgl, by omega, hgU⟩)
      · obtain ⟨q1, q2, q3⟩ := (taken_or (wish := n) hB (show 1 ≤ 1 by omega)).resolve_left z
        rw [take_ok z] at p3 ⊢
        simp only at p3
        generalize takenN lo hi U n 1 = f at z q1 q2 q3 p3
        have f0 := free_at q2 (show 0 < 1 by omega)
        simp only [go_sem, show ((0 : Int) != 0) = false from rfl]
        have hgl' : (toI g).length = g.length := toI_len g
        refine Brings.loop (fun r ys w'' => ∃ k : Nat, ys = [s, .bool false, .pointer (some ⟨a, 0, none⟩), .int .i64 ((hi : Int) - lo + 1 - (0 : Nat)), v, .int .i64 (i : Int), .int .u16 (f : Int), .int .i64 (k : Int)] ∧ k ≤ g.length ∧ r = g.length - k ∧ w'' = w3) ?_ g.length _ _
          ⟨0, rfl, by omega, by omega, rfl⟩
        rintro r ys w'' ⟨k, rfl, hk, hr, rfl⟩
        simp only [s4B1, t33.len O3.view, toI_len, go_sem]
        refine .cond (fun hlt => ?_) (fun hlt => ?_)
        · have hlt : k < g.length := by
            have : (k : Int) < g.length := by simpa using hlt
            omega
          obtain ⟨y, q', hy, hiy, hld'⟩ := t33.get O3.view (j := k) (by omega)
          obtain ⟨u, hu, hyu⟩ : ∃ u, g[k]? = some u ∧ y = (u : Int) := by
            unfold toI at hy
            rw [List.getElem?_map] at hy
            cases hg : g[k]? with
            | none => rw [hg] at hy; cases hy
            | some u =>
              rw [hg] at hy
              injection hy with hy
              exact ⟨u, rfl, hy.symm⟩
          have hne : ((u : Int) == (f : Int)) = false := by
            rw [beq_eq_false_iff_ne]
            intro e
            have : u = f := by omega
            exact f0.2.2 (by rw [Nat.add_zero, ← this]; exact hgU u (List.mem_of_getElem? hu))
          subst hyu
          simp only [hiy, hld', hne, go_sem]
          rw [wrap_i64 (n := (k : Int) + 1) (by omega) (by omega)]
          exact .ret (.inl ⟨rfl, g.length - (k + 1), by omega, k + 1, rfl, by omega, rfl, rfl⟩)
        · refine .ret (.inr ⟨by simp, ?_⟩)
          simp only [s4R1]
          refine (k16 p3 (show f < 65536 by omega)).bind ?_
          rintro _ rfl
          have fI : f ∈ insN U f 1 := mem_insN.2 (.inr ⟨by omega, by omega⟩)
          obtain ⟨s1, w5, e5, v6, w6, e6, O6, c6, n6⟩ := pushN t33 O3 (f : Int) (by rw [toI_len]; omega)
          simp only [fI, decide_true, Bool.not_true, e5, e6, wr, go_sem]
          have na : ∀ q, v.ownBlock = some q → q ≠ a := fun q hq' => (hq q hq').1
          have s3 := b3.size
          have la3 := p3.lt
          refine .ret (.inl ⟨rfl, 100 - (i + 1), by omega, i + 1, v6, insN U f 1, g ++ [f], rfl, by omega, by omega, rfl, ?_, p3.chg c6 fun e => na a e rfl, by rw [toI_add]; exact O6, fun q' hq' => ?_, by rw [insN_len, List.length_append, hgl]; rfl, by rw [List.length_append]; simp; omega, fun x hx => ?_⟩)
          · exact (b3.thenChg c6).bel fun k hk e => by have := (hq k e).2; omega
          · rcases n6 q' hq' with h | h
            · exact hq q' h
            · exact ⟨by omega, by omega⟩
          · rcases List.mem_append.1 hx with hx | hx
            · exact mem_insN.2 (.inl (hgU x hx))
            · simp at hx
              subst hx
              exact fI
    · have e2 : decide ((i : Int) < 100) = false := by rw [decide_eq_false_iff_not]; omega
      simp only [e1, e2, go_sem]
      exact .ret (.inr ⟨by simp, fin⟩)
  · have e1 : decide ((i : Int) < ws.length) = false := by rw [decide_eq_false_iff_not]; omega
    simp only [e1, go_sem]
    exact .ret (.inr ⟨by simp, fin⟩)

/-! ## Ports -/

/-- So many from one on. -/
def run (a n : Nat) : List Nat := (List.range n).map (a + ·)
theorem mem_run {a n k : Nat} : k ∈ run a n ↔ a ≤ k ∧ k < a + n := by
  unfold run
  simp only [List.mem_map, List.mem_range]
  constructor
  · rintro ⟨i, hi, rfl⟩
    omega
  · rintro ⟨h1, h2⟩
    exact ⟨k - a, by omega, by omega⟩
theorem run_len {a n : Nat} : (run a n).length = n := by simp [run]
theorem run_first {lo n i : Nat} (h1 : 1 ≤ lo) (hi : i ≤ n) : takenN lo (lo + n) (run lo i) 0 1 = lo + i := by
  have hc0 : ¬ condN lo (lo + n) (run lo i) 1 0 = true := by
    rw [cond1, ok_lo (by omega)]; decide
  unfold takenN
  rw [if_neg hc0]
  refine least_at (by omega) ?_ fun k hk => ?_
  · rw [cond1]
    unfold okN
    simp only [Bool.and_eq_true, decide_eq_true_eq, mem_run]
    omega
  · rw [cond1]
    by_cases c : k < lo
    · exact ok_lo c
    · unfold okN
      have : decide (k ∉ run lo i) = false := by rw [decide_eq_false_iff_not, mem_run]; omega
      rw [this, Bool.and_false]
theorem run_ins {lo n i : Nat} (hB : Bnd lo (lo + n) (run lo i)) (hi : i ≤ n) : insN (run lo i) (lo + i) 1 = run lo (i + 1) := by
  have hf : freeN lo (lo + n) (run lo i) (lo + i) 1 = true := by
    unfold freeN
    simp only [List.range_one, List.all_cons, List.all_nil, Bool.and_true, Nat.add_zero]
    unfold okN
    simp only [Bool.and_eq_true, decide_eq_true_eq, mem_run]
    omega
  refine asc_ext (insN_asc hB hf) asc_range fun k => ?_
  rw [mem_insN, mem_run, mem_run]
  omega
theorem run_give {lo m : Nat} (hm : 0 < m) (hB : Asc (run lo m)) : giveN (run lo m) lo = (0, run (lo + 1) (m - 1)) := by
  unfold giveN
  rw [if_pos (mem_run.2 (by omega))]
  congr 1
  refine asc_ext (asc_filter _ hB) asc_range fun k => ?_
  simp only [List.mem_filter, mem_run, decide_eq_true_eq]
  omega

theorem m10 {w : World} {lo n : Nat} (hT : Tab w) (h1 : 1 ≤ lo) (h2 : lo + n ≤ 65535) (hn : n < 256) : Brings (s10M0 (.int .u16 (lo : Int)) (.int .u8 (n : Int)) (.bool false) w) (Yes w) := by
  unfold s10M0
  have cv1 : Qconv Tryd.prog 5 22 (.int .u8 (n : Int)) = some (.int .u16 (n : Int)) := by rw [Qconv_int (k := .u16) (by kernel_rfl), wrap_u rfl (show n < 65536 by omega)]
  have cv2 : Qconv Tryd.prog 5 3 (.int .u8 (n : Int)) = some (.int .i64 (n : Int)) := by rw [Qconv_int (k := .i64) (by kernel_rfl), wrap_i64 (by omega) (by omega)]
  have cv3 : ∀ i : Nat, i < 65536 → Qconv Tryd.prog 3 22 (.int .i64 (i : Int)) = some (.int .u16 (i : Int)) := fun i hi => by rw [Qconv_int (k := .u16) (by kernel_rfl), wrap_u rfl (show i < 65536 from hi)]
  have ad : ∀ i : Nat, i ≤ n → IntKind.u16.wrap ((lo : Int) + (i : Int)) = ((lo + i : Nat) : Int) := fun i hi => by
    rw [show (lo : Int) + (i : Int) = ((lo + i : Nat) : Int) by omega]
    exact wrap_u rfl (show lo + i < 65536 by omega)
  simp only [cv1, ad n (Nat.le_refl n), go_sem]
  refine (k23 (show lo < 65536 by omega) (show lo + n < 65536 by omega)).bind ?_
  rintro ⟨_, w1⟩ ⟨b1, ⟨hn', _⟩ | ⟨_, a, e1, fa, p1⟩⟩
  · exfalso
    unfold mayNew at hn'
    have q1 : decide (lo ≠ 0) = true := by rw [decide_eq_true_iff]; omega
    have q2 : decide (lo ≤ lo + n) = true := by rw [decide_eq_true_iff]; omega
    rw [q1, q2] at hn'
    cases hn'
  simp only at e1 b1 p1
  subst e1
  have la := p1.lt
  simp only
  refine Brings.loop (fun m xs w' => ∃ i : Nat, xs = [.int .u16 (lo : Int), .int .u8 (n : Int), .bool false, .pointer (some ⟨a, 0, none⟩), .int .i64 (i : Int)] ∧ i ≤ n + 1 ∧ m = n + 1 - i ∧ Bel w w' ∧ Pl w' a lo (lo + n) (run lo i)) ?_ (n + 1) _ _
    ⟨0, rfl, by omega, by omega, b1, p1⟩
  rintro m xs w' ⟨i, rfl, hi, hm, hb, hP⟩
  have la' := hP.lt
  simp only [s10B1, cv2, go_sem]
  refine .cond (fun hlt => ?_) (fun hlt => ?_)
  · have hlt : i ≤ n := by
      have : (i : Int) ≤ n := by simpa using hlt
      omega
    refine (k15 (n := 0) hP (by omega)).bind ?_
    rintro ⟨_, w3⟩ ⟨e3, c3, p3⟩
    have tk := run_first (lo := lo) (n := n) (i := i) h1 hlt
    rw [take_ok (by rw [tk]; omega), tk, run_ins hP.1 hlt] at e3 p3
    simp only at e3 c3 p3
    subst e3
    have e5 : (((lo + i : Nat) : Int) != ((lo + i : Nat) : Int)) = false := bne_self_eq_false _
    simp only [go_sem, show ((0 : Int) != 0) = false from rfl, cv3 i (by omega), ad i hlt, e5]
    rw [wrap_i64 (n := (i : Int) + 1) (by omega) (by omega)]
    exact .ret (.inl ⟨rfl, n + 1 - (i + 1), by omega, i + 1, rfl, by omega, rfl, (hb.thenChg c3).bel fun k hk e => by omega, p3⟩)
  · have : i = n + 1 := by
      have : ¬ (i : Int) ≤ n := by simpa using hlt
      omega
    subst this
    refine .ret (.inr ⟨by simp, ?_⟩)
    simp only [s10R1]
    refine (k15 (n := lo) hP (by omega)).bind ?_
    rintro ⟨_, w3⟩ ⟨e3, c3, p3⟩
    have zl : leastN lo (lo + n) (run lo (n + 1)) 1 = 0 := least_none fun k hk => by
      rw [cond1]
      by_cases c : k < lo
      · exact ok_lo c
      · unfold okN
        have : decide (k ∉ run lo (n + 1)) = false := by rw [decide_eq_false_iff_not, mem_run]; omega
        rw [this, Bool.and_false]
    rw [take_err (none_taken hP.1 zl)] at e3 p3
    simp only at e3 c3 p3
    subst e3
    have b3 : Bel w w3 := (hb.thenChg c3).bel fun k hk e => by omega
    simp only [go_sem, show ((9 : Int) != 9) = false from rfl]
    refine (k14 (hT.bel b3) p3).bind ?_
    rintro ⟨_, w4⟩ ⟨e4, b4⟩
    simp only at e4 b4
    subst e4
    have e0 : (((lo + n : Nat) : Int) - lo + 1 - (run lo (n + 1)).length != 0) = false := by
      rw [run_len, bne_eq_false_iff_eq]; omega
    simp only [go_sem, e0]
    refine Brings.loop (fun m xs w' => ∃ i : Nat, xs = [.int .u16 (lo : Int), .int .u8 (n : Int), .bool false, .pointer (some ⟨a, 0, none⟩), .int .i64 (i : Int)] ∧ i ≤ n + 1 ∧ m = n + 1 - i ∧ Bel w w' ∧ Pl w' a lo (lo + n) (run (lo + i) (n + 1 - i))) ?_ (n + 1) _ _
      ⟨0, rfl, by omega, by omega, b3.trans b4, p3.bel b4⟩
    rintro m xs w' ⟨i, rfl, hi, hm, hb, hP⟩
    have la' := hP.lt
    simp only [s10B2, cv2, go_sem]
    refine .cond (fun hlt => ?_) (fun hlt => ?_)
    · have hlt : i ≤ n := by
        have : (i : Int) ≤ n := by simpa using hlt
        omega
      simp only [cv3 i (by omega), ad i hlt, go_sem]
      refine (k18 hP (show lo + i < 65536 by omega)).bind ?_
      rintro ⟨_, w5⟩ ⟨e5, c5, p5⟩
      rw [run_give (by omega) hP.1.asc] at e5 p5
      simp only at e5 c5 p5
      subst e5
      simp only [go_sem, show ((0 : Int) != 0) = false from rfl]
      rw [wrap_i64 (n := (i : Int) + 1) (by omega) (by omega)]
      refine .ret (.inl ⟨rfl, n + 1 - (i + 1), by omega, i + 1, rfl, by omega, rfl, (hb.thenChg c5).bel fun k hk e => by omega, ?_⟩)
      rw [show n + 1 - (i + 1) = n + 1 - i - 1 by omega, show lo + (i + 1) = lo + i + 1 by omega]
      exact p5
    · have : i = n + 1 := by
        have : ¬ (i : Int) ≤ n := by simpa using hlt
        omega
      subst this
      rw [Nat.sub_self] at hP
      refine .ret (.inr ⟨by simp, ?_⟩)
      simp only [s10R2]
      refine (k14 (hT.bel hb) hP).bind ?_
      rintro ⟨_, w6⟩ ⟨e6, b6⟩
      simp only at e6 b6
      subst e6
      have e7 : (((lo + n : Nat) : Int) - lo + 1 - (run (lo + (n + 1)) 0).length == (n : Int) + 1) = true := by
        rw [run_len, beq_iff_eq]; omega
      simp only [cv2, go_sem]
      rw [wrap_i64 (n := (n : Int) + 1) (by omega) (by omega)]
      simp only [go_sem, e7]
      refine (k17 (hT.bel (hb.trans b6)) (hP.bel b6)).bind ?_
      rintro ⟨u, w7⟩ F7
      simp only at F7
      simp only [go_sem, t33.len F7.2.1.view, toI_len, run_len, show (((0 : Nat) : Int) == 0) = true from rfl]
      exact .ret ⟨rfl, (hb.trans b6).trans F7.1⟩

theorem l10 {w : World} {low n : Nat} (hT : Tab w) (hl : low < 65536) (hn : n < 256) : Brings (s10 (.int .u16 (low : Int)) (.int .u8 (n : Int)) w) (Yes w) := by
  unfold s10
  have cv0 : Qconv Tryd.prog 22 3 (.int .u16 (low : Int)) = some (.int .i64 (low : Int)) := by rw [Qconv_int (k := .i64) (by kernel_rfl), wrap_i64 (by omega) (by omega)]
  have cv2 : Qconv Tryd.prog 5 3 (.int .u8 (n : Int)) = some (.int .i64 (n : Int)) := by rw [Qconv_int (k := .i64) (by kernel_rfl), wrap_i64 (by omega) (by omega)]
  simp only [go_sem]
  by_cases c1 : low = 0
  · have e1 : ((low : Int) == 0) = true := by rw [c1]; rfl
    simp only [e1, go_sem]
    exact m10 (lo := 1) hT (by omega) (by omega) hn
  · have e1 : ((low : Int) == 0) = false := by rw [beq_eq_false_iff_ne]; omega
    simp only [e1, cv0, cv2, go_sem]
    rw [wrap_i64 (n := (low : Int) + n) (by omega) (by omega)]
    by_cases c2 : 65535 < low + n
    · have e2 : decide ((65535 : Int) < (low : Int) + n) = true := by rw [decide_eq_true_iff]; omega
      simp only [e2, go_sem]
      exact m10 (lo := 1) hT (by omega) (by omega) hn
    · have e2 : decide ((65535 : Int) < (low : Int) + n) = false := by rw [decide_eq_false_iff_not]; omega
      simp only [e2, go_sem]
      exact m10 hT (by omega) (by omega) hn

theorem law4 {m k : Int} {v0 : Value} {n0 : Nat} {w : World} {r0 : Reach} {b0 : Nat} (hT : Tab w) (h1 : (Lit.int .u16 m).wf = true) (h2 : (Lit.int .u16 k).wf = true) (ho0 : Value.okWide Tryd.prog w r0 b0 33 v0) (h0 : Okc Tryd.prog w n0 33 v0.cells.toList) :
    Calls Tryd.prog 4 #[.int .u16 m, .int .u16 k, v0] w fun e w' => e = .returned (.bool true) ∧ Below w.heap.size w w' := by
  obtain ⟨a, rfl, ha⟩ := nat16 h1
  obtain ⟨b, rfl, hb⟩ := nat16 h2
  obtain ⟨ws, hv, hok⟩ := view_int (k := .u16) und33 (by kernel_rfl) (by kernel_rfl) (cells_slice und33 ho0) h0
  exact law_of (l4 hT ha hb hv hok) fun _ => c4
theorem law10 {m k : Int} {w : World} (hT : Tab w) (h1 : (Lit.int .u16 m).wf = true) (h2 : (Lit.int .u8 k).wf = true) :
    Calls Tryd.prog 10 #[.int .u16 m, .int .u8 k] w fun e w' => e = .returned (.bool true) ∧ Below w.heap.size w w' := by
  obtain ⟨a, rfl, ha⟩ := nat16 h1
  obtain ⟨b, rfl, hb⟩ := wf_u (k := .u8) rfl h2
  exact law_of (l10 hT ha hb) fun _ => c10
end Go.Proofs.YtebhknagnkcldaaDoor
