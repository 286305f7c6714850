/- The laws of the package track over rows of segments. -/
import Derived.Test.YtmhpecfgipmgaaaTr7
import Derived.Test.YtmhpecfgipmgaaaFc
namespace Go.Proofs.Ytmhpecfgipmgaaa
open Go Go.Ev Go.RowKit
open Go.Proofs

abbrev IsBool (y : Value) : Prop := ∃ b, y = .bool b
abbrev IsByte (y : Value) : Prop := ∃ m, y = .int .u8 m ∧ (Lit.int .u8 m).wf = true

theorem und29 : Try.prog.underlying 29 = some (.slice 4) := by kernel_rfl
theorem und30 : Try.prog.underlying 30 = some (.slice 5) := by kernel_rfl
theorem inf4 : ∃ i, Try.prog.info? 4 = some i ∧ i.size = 1 := ⟨(Try.prog.info? 4).get (by kernel_rfl), by kernel_rfl, by kernel_rfl⟩
theorem inf5 : ∃ i, Try.prog.info? 5 = some i ∧ i.size = 1 := ⟨(Try.prog.info? 5).get (by kernel_rfl), by kernel_rfl, by kernel_rfl⟩

/-- A direction is read. -/
theorem getB {w w' : World} {v : Value} {len : Nat} (h : RowOf IsBool w v len) {n : Int} (h0 : 0 ≤ n) (h1 : n < len) (_ : Bel w w') :
    ∃ q b, (∀ w', QindexAddr Try.prog 29 v (.int .i64 n) w' = some (.pointer (some q))) ∧ ∀ w', Bel w w' → Qload Try.prog 4 (.pointer (some q)) w' = some (.bool b) := by
  obtain ⟨i, hi, hs⟩ := inf4
  obtain ⟨q, y, hq, hc, b, rfl⟩ := h.get und29 hi hs h0 h1
  exact ⟨q, b, hq, fun w' hb => Qload_cell one4 (hb.cell_some hc)⟩
theorem getF {w w' : World} {v : Value} {len : Nat} (h : RowOf IsByte w v len) {n : Int} (h0 : 0 ≤ n) (h1 : n < len) (_ : Bel w w') :
    ∃ q m, 0 ≤ m ∧ m < 256 ∧ (∀ w', QindexAddr Try.prog 30 v (.int .i64 n) w' = some (.pointer (some q))) ∧ ∀ w', Bel w w' → Qload Try.prog 5 (.pointer (some q)) w' = some (.int .u8 m) := by
  obtain ⟨i, hi, hs⟩ := inf5
  obtain ⟨q, y, hq, hc, m, rfl, hm⟩ := h.get und30 hi hs h0 h1
  exact ⟨q, m, (wf_byte hm).1, (wf_byte hm).2, hq, fun w' hb => Qload_cell one5 (hb.cell_some hc)⟩

/-! ### TopHandshake -/
theorem ack3 (b : Bool) : nextM 3 b 24 = (3, true) := by cases b <;> decide +kernel

theorem l11 {v : Value} {len : Nat} {w : World} (hv : RowOf IsBool w v len) : Brings (s11 v w) (fun r => r.1 = .bool true ∧ Bel w r.2) := by
  unfold s11
  refine k12.bind ?_
  rintro ⟨_, w1⟩ ⟨h, b1⟩
  simp only at h b1
  rw [show nextM 0 false 2 = (1, true) from by decide +kernel] at h
  subst h
  simp only [go_sem]
  refine k12.bind ?_
  rintro ⟨_, w2⟩ ⟨h, b2⟩
  simp only at h b2
  rw [show nextM 1 true 18 = (2, true) from by decide +kernel] at h
  subst h
  simp only [go_sem, Bool.not_true, show ((1 : Int) != 1) = false from rfl, show ((2 : Int) != 2) = false from rfl]
  refine k12.bind ?_
  rintro ⟨_, w3⟩ ⟨h, b3⟩
  simp only at h b3
  rw [show nextM 2 false 16 = (3, true) from by decide +kernel] at h
  subst h
  simp only [go_sem]
  refine Brings.loop (fun n xs w' => ∃ i : Int, xs = [v, .bool false, .int .i64 3, .bool true, .int .i64 i] ∧ 0 ≤ i ∧ i ≤ 30 ∧ n = (30 - i).toNat ∧ Bel w w') ?_ 30 _ _ ⟨0, rfl, by omega, by omega, rfl, (b1.trans b2).trans b3⟩
  rintro n xs w4 ⟨i, rfl, h0, h30, hn, hb⟩
  simp only [s11B0, hv.len und29, go_sem]
  cases hi : decide (i < len) with
  | true =>
    have hi : i < len := by simpa using hi
    simp only [go_sem]
    refine .cond (fun hlt => ?_) (fun hlt => ?_)
    · have hlt : i < 30 := by simpa using hlt
      obtain ⟨q, b, hq, hld⟩ := getB hv h0 hi hb
      simp only [hq, hld _ hb, go_sem]
      refine k12.bind ?_
      rintro ⟨_, w5⟩ ⟨h, b5⟩
      simp only at h b5
      rw [ack3] at h
      subst h
      simp only [go_sem, Bool.not_true, show ((3 : Int) != 3) = false from rfl]
      exact .ret (.inl ⟨rfl, (30 - (i + 1)).toNat, by omega, i + 1, by rw [wrap_small (by omega) (by omega)], by omega, by omega, rfl, hb.trans b5⟩)
    · exact .ret (.inr ⟨by simp, tail hb⟩)
  | false =>
    simp only [go_sem]
    exact .ret (.inr ⟨by simp, tail hb⟩)
where
  tail {v : Value} {i : Int} {w w4 : World} (hb : Bel w w4) : Brings (s11R0 (.exit 0) [v, .bool false, .int .i64 3, .bool true, .int .i64 i] w4) (fun r => r.1 = .bool true ∧ Bel w r.2) := by
    simp only [s11R0]
    refine k12.bind ?_
    rintro ⟨_, w1⟩ ⟨h, b1⟩
    simp only at h b1
    rw [show nextM 3 false 17 = (4, true) from by decide +kernel] at h
    subst h
    simp only [go_sem]
    refine k12.bind ?_
    rintro ⟨_, w2⟩ ⟨h, b2⟩
    simp only at h b2
    rw [show nextM 4 true 17 = (5, true) from by decide +kernel] at h
    subst h
    simp only [go_sem]
    refine k12.bind ?_
    rintro ⟨_, w3⟩ ⟨h, b3⟩
    simp only at h b3
    rw [show nextM 5 false 16 = (6, true) from by decide +kernel] at h
    subst h
    simp only [go_sem, beq_self_eq_true]
    refine k18.bind ?_
    rintro ⟨_, w5⟩ ⟨h, b5⟩
    simp only at h b5
    rw [show timeM 6 6 = 120 from by decide +kernel] at h
    subst h
    simp only
    refine k18.bind ?_
    rintro ⟨_, w6⟩ ⟨h, b6⟩
    simp only at h b6
    rw [show timeM 6 3 = 432000 from by decide +kernel] at h
    subst h
    simp only [go_sem]
    exact .ret ⟨rfl, (((hb.trans b1).trans b2).trans b3).trans (b5.trans b6)⟩

theorem law11 {v : Value} {n : Nat} {w : World} {r : Reach} {b0 : Nat} (ho : Value.okWide Try.prog w r b0 29 v) (h : Okc Try.prog w n 29 v.cells.toList) :
    Calls Try.prog 11 #[v] w fun e w' => e = .returned (.bool true) ∧ Below w.heap.size w w' := by
  obtain ⟨len, hv⟩ := rowOf_bool und29 Try.underlying4 (by kernel_rfl) (cells_slice und29 ho) h
  exact walk_of (l11 hv) fun _ => c11

/-! ### TrackLives -/
theorem stays {s n : Int} {b : Bool} (hs0 : 0 ≤ s) (hs7 : s ≤ 7) (h0 : 0 ≤ n) (h1 : n < 256) :
    ((nextM s b n).2 = false → (nextM s b n).1 = 0) ∧ ((nextM s b n).2 = true → 1 ≤ (nextM s b n).1 ∧ (nextM s b n).1 ≤ 7) := by
  rw [next_same b h0 h1]
  generalize has n 4 = rst
  generalize has n 2 = syn
  generalize has n 1 = fin
  generalize has n 16 = ack
  generalize beginsR n = beg
  have : s = 0 ∨ s = 1 ∨ s = 2 ∨ s = 3 ∨ s = 4 ∨ s = 5 ∨ s = 6 ∨ s = 7 := by omega
  rcases this with rfl | rfl | rfl | rfl | rfl | rfl | rfl | rfl <;> revert b rst syn fin ack beg <;> decide +kernel

theorem live17 {s : Int} (h0 : 1 ≤ s) (h1 : s ≤ 7) : liveM s = !(s == 7) ∧ 0 < timeM 6 s := by
  have : s = 1 ∨ s = 2 ∨ s = 3 ∨ s = 4 ∨ s = 5 ∨ s = 6 ∨ s = 7 := by omega
  rcases this with rfl | rfl | rfl | rfl | rfl | rfl | rfl <;> decide +kernel

theorem l9 {x0 x1 : Value} {len0 len1 : Nat} {w : World} (hv0 : RowOf IsBool w x0 len0) (hv1 : RowOf IsByte w x1 len1) : Brings (s9 x0 x1 w) (fun r => r.1 = .bool true ∧ Bel w r.2) := by
  unfold s9
  refine Brings.loop (fun n xs w' => ∃ s i : Int, xs = [x0, x1, .bool false, .int .i64 s, .int .i64 i] ∧ 0 ≤ s ∧ s ≤ 7 ∧ 0 ≤ i ∧ i ≤ 40 ∧ n = (40 - i).toNat ∧ Bel w w') ?_ 40 _ _ ⟨0, 0, rfl, by omega, by omega, by omega, by omega, rfl, Bel.refl _⟩
  rintro n xs w4 ⟨s, i, rfl, hs0, hs7, h0, h40, hn, hb⟩
  have stop : Brings (some ((Exit.exit 0), [x0, x1, .bool false, .int .i64 s, .int .i64 i], w4)) fun r => (r.1 = Exit.normal ∧ ∃ m, m < n ∧ ∃ s i : Int, r.2.1 = [x0, x1, .bool false, .int .i64 s, .int .i64 i] ∧ 0 ≤ s ∧ s ≤ 7 ∧ 0 ≤ i ∧ i ≤ 40 ∧ m = (40 - i).toNat ∧ Bel w r.2.2) ∨
      (r.1 ≠ Exit.normal ∧ Brings (s9R0 r.1 r.2.1 r.2.2) fun r => r.1 = .bool true ∧ Bel w r.2) := by
    refine .ret (.inr ⟨by simp, ?_⟩)
    simp only [s9R0]
    refine k14.bind ?_
    rintro ⟨_, w5⟩ ⟨h, b5⟩
    simp only at h b5
    subst h
    simp only [go_sem]
    refine k17.bind ?_
    rintro _ rfl
    have : s = 0 ∨ s = 1 ∨ s = 2 ∨ s = 3 ∨ s = 4 ∨ s = 5 ∨ s = 6 ∨ s = 7 := by omega
    rcases this with rfl | rfl | rfl | rfl | rfl | rfl | rfl | rfl <;> simp only [go_sem, liveM] <;> exact .ret ⟨rfl, hb.trans b5⟩
  simp only [s9B0, hv0.len und29, go_sem]
  cases hi : decide (i < len0) with
  | false => simp only [go_sem]; exact stop
  | true =>
    have hi : i < len0 := by simpa using hi
    simp only [hv1.len und30, go_sem]
    cases hi1 : decide (i < len1) with
    | false => simp only [go_sem]; exact stop
    | true =>
      have hi1 : i < len1 := by simpa using hi1
      simp only [go_sem]
      refine .cond (fun hlt => ?_) (fun hlt => stop)
      have hlt : i < 40 := by simpa using hlt
      obtain ⟨q, b, hq, hld⟩ := getB hv0 h0 hi hb
      obtain ⟨q1, m, m0, m1, hq1, hld1⟩ := getF hv1 h0 hi1 hb
      simp only [hq, hld _ hb.drew, hq1, hld1 _ hb.drew, go_sem]
      refine k12.bind ?_
      rintro ⟨_, w5⟩ ⟨h, b5⟩
      have b6 := hb.drew.trans b5
      simp only at h
      subst h
      obtain ⟨st0, st1⟩ := stays (b := b) hs0 hs7 m0 m1
      generalize nextM s b m = x at st0 st1
      obtain ⟨s', ok⟩ := x
      simp only at st0 st1
      cases ok with
      | false =>
        have := st0 rfl
        subst this
        simp only [go_sem, Bool.not_false, show ((0 : Int) != 0) = false from rfl]
        exact .ret (.inl ⟨rfl, (40 - (i + 1)).toNat, by omega, s, i + 1, by rw [wrap_small (by omega) (by omega)], hs0, hs7, by omega, by omega, rfl, b6⟩)
      | true =>
        obtain ⟨s1, s2⟩ := st1 rfl
        obtain ⟨lv, tm⟩ := live17 s1 s2
        simp only [go_sem, Bool.not_true]
        refine k17.bind ?_
        rintro _ rfl
        simp only [go_sem, lv, Bool.not_not]
        have hguard : (guardQ (.bool (s' == 7)) true (Qbin Try.prog BinOp.neq 22 (gv (s' == 7) (.int .i64 s')) (.int .i64 7))).bind (fun v154 => Qpick (.bool (s' == 7)) v154 (.bool false)) = some (.bool false) := by
          cases h7 : s' == 7
          · rfl
          · simp only [go_sem, bne, h7, Bool.not_true]
        rw [← Option.bind_assoc, hguard]
        simp only [go_sem]
        refine k18.bind ?_
        rintro ⟨_, w7⟩ ⟨h, b7⟩
        simp only at h b7
        subst h
        simp only [go_sem, show decide (timeM 6 s' ≤ 0) = false from by simp; omega]
        exact .ret (.inl ⟨rfl, (40 - (i + 1)).toNat, by omega, s', i + 1, by rw [wrap_small (by omega) (by omega)], by omega, by omega, by omega, by omega, rfl, b6.trans b7⟩)

theorem law9 {v0 v1 : Value} {n0 n1 : Nat} {w : World} {r0 r1 : Reach} {b0 b1 : Nat} (ho0 : Value.okWide Try.prog w r0 b0 29 v0) (h0 : Okc Try.prog w n0 29 v0.cells.toList) (ho1 : Value.okWide Try.prog w r1 b1 30 v1) (h1 : Okc Try.prog w n1 30 v1.cells.toList) :
    Calls Try.prog 9 #[v0, v1] w fun e w' => e = .returned (.bool true) ∧ Below w.heap.size w w' := by
  obtain ⟨len0, hv0⟩ := rowOf_bool und29 Try.underlying4 (by kernel_rfl) (cells_slice und29 ho0) h0
  obtain ⟨len1, hv1⟩ := rowOf_int und30 Try.underlying5 (by kernel_rfl) (cells_slice und30 ho1) h1
  exact walk_of (l9 hv0 hv1) fun _ => c9

/-! ### TrackOpen -/
def ansM (s : Int) (b ans rst syn : Bool) : Bool := if syn && !rst then (if s == 6 || s == 7 then false else (ans && s != 6 && s != 7) || (b && s == 1)) else ans
theorem opens {s n : Int} {b ans : Bool} (hs0 : 0 ≤ s) (hs7 : s ≤ 7) (ha : 2 ≤ s → s ≤ 5 → ans = true) (h0 : 0 ≤ n) (h1 : n < 256) :
    (nextM s b n).2 = true → 1 ≤ (nextM s b n).1 ∧ (nextM s b n).1 ≤ 7 ∧ (2 ≤ (nextM s b n).1 → (nextM s b n).1 ≤ 5 → ansM s b ans (has n 4) (has n 2) = true) := by
  rw [next_same b h0 h1]
  have hb := begins_bits h0 h1
  rw [begins_same h0 h1] at hb
  revert ha hb
  generalize has n 4 = rst
  generalize has n 2 = syn
  generalize has n 1 = fin
  generalize has n 16 = ack
  generalize beginsR n = beg
  have : s = 0 ∨ s = 1 ∨ s = 2 ∨ s = 3 ∨ s = 4 ∨ s = 5 ∨ s = 6 ∨ s = 7 := by omega
  rcases this with rfl | rfl | rfl | rfl | rfl | rfl | rfl | rfl <;> revert b ans rst syn fin ack beg <;> decide +kernel

theorem has_eq (n m : Int) : (band n m == 0) = !has n m := by unfold has; simp only [bne, Bool.not_not]

theorem l7 {x0 x1 : Value} {len0 len1 : Nat} {w : World} (hv0 : RowOf IsBool w x0 len0) (hv1 : RowOf IsByte w x1 len1) : Brings (s7 x0 x1 w) (fun r => r.1 = .bool true ∧ Bel w r.2) := by
  unfold s7
  refine Brings.loop (fun n xs w' => ∃ (s i : Int) (ans : Bool), xs = [x0, x1, .bool false, .int .i64 s, .bool ans, .int .i64 i] ∧ 0 ≤ s ∧ s ≤ 7 ∧ (2 ≤ s → s ≤ 5 → ans = true) ∧ 0 ≤ i ∧ i ≤ 40 ∧ n = (40 - i).toNat ∧ Bel w w') ?_ 40 _ _
    ⟨0, 0, false, rfl, by omega, by omega, fun h => by omega, by omega, by omega, rfl, Bel.refl _⟩
  rintro n xs w4 ⟨s, i, ans, rfl, hs0, hs7, ha, h0, h40, hn, hb⟩
  have stop : Brings (some ((Exit.exit 0), [x0, x1, .bool false, .int .i64 s, .bool ans, .int .i64 i], w4)) fun r => (r.1 = Exit.normal ∧ ∃ m, m < n ∧ ∃ (s i : Int) (ans : Bool), r.2.1 = [x0, x1, .bool false, .int .i64 s, .bool ans, .int .i64 i] ∧ 0 ≤ s ∧ s ≤ 7 ∧ (2 ≤ s → s ≤ 5 → ans = true) ∧ 0 ≤ i ∧ i ≤ 40 ∧ m = (40 - i).toNat ∧ Bel w r.2.2) ∨
      (r.1 ≠ Exit.normal ∧ Brings (s7R0 r.1 r.2.1 r.2.2) fun r => r.1 = .bool true ∧ Bel w r.2) := by
    refine .ret (.inr ⟨by simp, ?_⟩)
    simp only [s7R0]
    refine k14.bind ?_
    rintro ⟨_, w5⟩ ⟨h, b5⟩
    simp only at h b5
    subst h
    exact .ret ⟨rfl, hb.trans b5⟩
  simp only [s7B0, hv0.len und29, go_sem]
  cases hi : decide (i < len0) with
  | false => simp only [go_sem]; exact stop
  | true =>
    have hi : i < len0 := by simpa using hi
    simp only [hv1.len und30, go_sem]
    cases hi1 : decide (i < len1) with
    | false => simp only [go_sem]; exact stop
    | true =>
      have hi1 : i < len1 := by simpa using hi1
      simp only [go_sem]
      refine .cond (fun hlt => ?_) (fun hlt => stop)
      have hlt : i < 40 := by simpa using hlt
      obtain ⟨q, b, hq, hld⟩ := getB hv0 h0 hi hb
      obtain ⟨q1, m, m0, m1, hq1, hld1⟩ := getF hv1 h0 hi1 hb
      simp only [hq, hld _ hb.drew, hq1, hld1 _ hb.drew, go_sem]
      refine k12.bind ?_
      rintro ⟨_, w5⟩ ⟨h, b5⟩
      have b6 := hb.drew.trans b5
      simp only at h
      subst h
      have st := opens (b := b) hs0 hs7 ha m0 m1
      generalize nextM s b m = x at st
      obtain ⟨s', ok⟩ := x
      simp only at st
      cases ok with
      | false =>
        simp only [go_sem, Bool.not_false]
        exact .ret (.inl ⟨rfl, (40 - (i + 1)).toNat, by omega, s, i + 1, ans, by rw [wrap_small (by omega) (by omega)], hs0, hs7, ha, by omega, by omega, rfl, b6⟩)
      | true =>
        obtain ⟨s1, s2, s3⟩ := st rfl
        have fin : ∀ a' : Bool, (2 ≤ s' → s' ≤ 5 → a' = true) → Brings (s7M1 x0 x1 (.bool false) (.bool a') (.int .i64 i) (.int .i64 s') w5) fun r => (r.1 = Exit.normal ∧ ∃ m, m < n ∧ ∃ (s i : Int) (ans : Bool), r.2.1 = [x0, x1, .bool false, .int .i64 s, .bool ans, .int .i64 i] ∧ 0 ≤ s ∧ s ≤ 7 ∧ (2 ≤ s → s ≤ 5 → ans = true) ∧ 0 ≤ i ∧ i ≤ 40 ∧ m = (40 - i).toNat ∧ Bel w r.2.2) ∨
            (r.1 ≠ Exit.normal ∧ Brings (s7R0 r.1 r.2.1 r.2.2) fun r => r.1 = .bool true ∧ Bel w r.2) := by
          intro a' h'
          simp only [s7M1, go_sem]
          have e3 : (guardQ (.bool (s' == 3)) true (Qun .not (gv (s' == 3) (.bool a')))).bind (fun v101 => Qpick (.bool (s' == 3)) v101 (.bool false)) = some (.bool false) := by
            cases h3 : s' == 3
            · rfl
            · have : s' = 3 := by simpa using h3
              rw [h' (by omega) (by omega)]; rfl
          rw [← Option.bind_assoc, e3]
          simp only [go_sem, show decide (s' < 1) = false from by simp; omega, show decide (7 < s') = false from by simp; omega, Bool.not_false]
          exact .ret (.inl ⟨rfl, (40 - (i + 1)).toNat, by omega, s', i + 1, a', by rw [wrap_small (by omega) (by omega)], by omega, by omega, h', by omega, by omega, rfl, b6⟩)
        simp only [go_sem, Bool.not_true, hq1, hld1 _ b6, band_def, has_def]
        unfold ansM at s3
        cases f2 : has m 2 with
        | false =>
          simp only [go_sem]
          exact fin ans (by simpa [f2] using s3)
        | true =>
          simp only [hq1, hld1 _ b6, go_sem, band_def, has_eq]
          cases f4 : has m 4 with
          | true =>
            simp only [go_sem, Bool.not_true]
            exact fin ans (by simpa [f2, f4] using s3)
          | false =>
            simp only [f2, f4, Bool.not_false, Bool.and_self, if_true] at s3
            simp only [go_sem, Bool.not_false]
            have e1 : (guardQ (.bool ans) true (Qbin Try.prog BinOp.neq 22 (gv ans (.int .i64 s)) (.int .i64 6))).bind (fun v87 => Qpick (.bool ans) v87 (.bool false)) = some (.bool (ans && s != 6)) := by
              cases ans <;> simp only [go_sem, Bool.true_and, Bool.false_and]
            rw [← Option.bind_assoc, e1]
            simp only [go_sem]
            have e2 : (guardQ (.bool (ans && s != 6)) true (Qbin Try.prog BinOp.neq 22 (gv (ans && s != 6) (.int .i64 s)) (.int .i64 7))).bind (fun v87 => Qpick (.bool (ans && s != 6)) v87 (.bool false)) = some (.bool (ans && s != 6 && s != 7)) := by
              cases (ans && s != 6) <;> simp only [go_sem, Bool.true_and, Bool.false_and]
            rw [← Option.bind_assoc, e2]
            simp only [go_sem]
            generalize (ans && s != 6 && s != 7) = a1 at s3
            have e67 : ∀ a' : Bool, ((s == 6 || s == 7) = false → (2 ≤ s' → s' ≤ 5 → a' = true)) → Brings ((guardQ (.bool (s == 6)) false (Qbin Try.prog BinOp.eql 22 (gv (!(s == 6)) (.int .i64 s)) (.int .i64 7))).bind fun v97 =>
                (Qpick (.bool (s == 6)) (.bool true) v97).bind fun v98 =>
                condK v98 (s7M1 x0 x1 (.bool false) (.bool false) (.int .i64 i) (.int .i64 s') w5) (s7M1 x0 x1 (.bool false) (.bool a') (.int .i64 i) (.int .i64 s') w5)) fun r => (r.1 = Exit.normal ∧ ∃ m, m < n ∧ ∃ (s i : Int) (ans : Bool), r.2.1 = [x0, x1, .bool false, .int .i64 s, .bool ans, .int .i64 i] ∧ 0 ≤ s ∧ s ≤ 7 ∧ (2 ≤ s → s ≤ 5 → ans = true) ∧ 0 ≤ i ∧ i ≤ 40 ∧ m = (40 - i).toNat ∧ Bel w r.2.2) ∨
                (r.1 ≠ Exit.normal ∧ Brings (s7R0 r.1 r.2.1 r.2.2) fun r => r.1 = .bool true ∧ Bel w r.2) := by
              intro a' h'
              cases h6 : s == 6 with
              | true =>
                simp only [go_sem]
                exact fin false (by simpa [h6] using s3)
              | false =>
                simp only [go_sem, Bool.not_false]
                refine .cond (fun h7 => ?_) (fun h7 => ?_)
                · exact fin false (by simpa [h6, h7] using s3)
                · exact fin a' (h' (by simp [h6, h7]))
            cases a1 with
            | true =>
              simp only [go_sem]
              exact e67 true fun _ _ _ => rfl
            | false =>
              simp only [go_sem, hq, hld _ b6]
              cases b with
              | true =>
                simp only [go_sem]
                exact e67 (s == 1) fun h67 => by simpa [h67] using s3
              | false =>
                simp only [go_sem]
                exact e67 false fun h67 => by simpa [h67] using s3

theorem law7 {v0 v1 : Value} {n0 n1 : Nat} {w : World} {r0 r1 : Reach} {b0 b1 : Nat} (ho0 : Value.okWide Try.prog w r0 b0 29 v0) (h0 : Okc Try.prog w n0 29 v0.cells.toList) (ho1 : Value.okWide Try.prog w r1 b1 30 v1) (h1 : Okc Try.prog w n1 30 v1.cells.toList) :
    Calls Try.prog 7 #[v0, v1] w fun e w' => e = .returned (.bool true) ∧ Below w.heap.size w w' := by
  obtain ⟨len0, hv0⟩ := rowOf_bool und29 Try.underlying4 (by kernel_rfl) (cells_slice und29 ho0) h0
  obtain ⟨len1, hv1⟩ := rowOf_int und30 Try.underlying5 (by kernel_rfl) (cells_slice und30 ho1) h1
  exact walk_of (l7 hv0 hv1) fun _ => c7

end Go.Proofs.Ytmhpecfgipmgaaa
