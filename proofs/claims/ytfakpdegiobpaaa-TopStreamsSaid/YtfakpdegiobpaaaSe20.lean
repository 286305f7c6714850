/- Which are near; which lie inside; Back and Order. -/
import Derived.Test.YtfakpdegiobpaaaSe19
namespace Go.Proofs.Ytfakpdegiobpaaa
open Go Go.Ev Go.RowKit
open Go.Proofs

theorem add_cases (l : List M) (p : M) : ((addM l p).1 = 0 ∧ (addM l p).2 = l ++ [p] ∧ (match l.reverse with | [] => True | q :: _ => 0 ≤ aheadM p.start q.end_) ∧ mayM p.was = true ∧ mayM p.bs.length = true) ∨ ((addM l p).1 ≠ 0 ∧ (addM l p).2 = l) := by
  unfold addM
  by_cases c : mayM p.was = false ∨ mayM p.bs.length = false
  · rw [if_pos c]; exact .inr ⟨by simp, rfl⟩
  rw [if_neg c]
  rw [not_or, Bool.not_eq_false, Bool.not_eq_false] at c
  cases hl : l.reverse with
  | nil =>
    simp only [Bool.false_eq_true, if_false]
    by_cases c3 : 8 ≤ l.length
    · rw [if_pos c3]; exact .inr ⟨by simp, rfl⟩
    · rw [if_neg c3]; exact .inl ⟨rfl, rfl, trivial, c⟩
  | cons q rl =>
    simp only
    by_cases c2 : aheadM p.start q.end_ < 0
    · rw [if_pos (decide_eq_true c2)]; exact .inr ⟨by simp, rfl⟩
    · rw [if_neg (by rw [decide_eq_false c2]; decide)]
      by_cases c3 : 8 ≤ l.length
      · rw [if_pos c3]; exact .inr ⟨by simp, rfl⟩
      · rw [if_neg c3]; exact .inl ⟨rfl, rfl, by omega, c⟩

/-- Each lies behind the one ahead of it (the last one first). -/
def Chain : List M → Prop
  | [] => True
  | p :: rl => (match rl with | [] => True | q :: _ => 0 ≤ aheadM p.start q.end_) ∧ Chain rl
theorem chain_add {l : List M} {p : M} (h : Chain l.reverse) : Chain (addM l p).2.reverse := by
  rcases add_cases l p with ⟨_, e, h2, _⟩ | ⟨_, e⟩
  · rw [e, List.reverse_append]
    exact ⟨h2, h⟩
  · rw [e]; exact h
theorem chain_parts : ∀ (Y : List (Part × List By)) (l : List M), Chain l.reverse → Chain (partsM l Y).reverse
  | [], _, h => h
  | y :: Y, l, h => chain_parts Y (addM l (toM y)).2 (chain_add h)

theorem row_of {B : Int} : ∀ rl : List M, Chain rl → Fine rl → Close B rl → ∃ e, Row e (rl.map (zOf B)) ∧ (match rl with | [] => e = 0 | p :: _ => e = aheadM p.start B + p.was)
  | [], _, _, _ => ⟨0, trivial, rfl⟩
  | p :: rl, hch, hf, hc => by
    obtain ⟨e, hr, he⟩ := row_of rl hch.2 (fun q hq => hf q (by simp [hq])) fun q hq => hc q (by simp [hq])
    obtain ⟨f1, f2, f3, f4, f5, f6⟩ := hf p (by simp)
    obtain ⟨g1, g2⟩ := hc p (by simp)
    refine ⟨aheadM p.start B + p.was, ⟨f3, f4, by show (1 : Int) ≤ p.bs.length; omega, by show (p.bs.length : Int) ≤ 128; omega, Int.le_refl _, ?_⟩, rfl⟩
    cases rl with
    | nil => exact trivial
    | cons q rl =>
      refine hr.mono ?_
      simp only at he
      obtain ⟨q1, q2, q3, q4, q5, q6⟩ := hf q (by simp)
      obtain ⟨h1, h2⟩ := hc q (by simp)
      have hs : p.start % 4294967296 = (B + aheadM p.start B) % 4294967296 := ahead_start
      have hq : q.start % 4294967296 = (B + aheadM q.start B) % 4294967296 := ahead_start
      have := ahead_of (a := p.start) (b := q.end_) (B := B) (x := aheadM p.start B) (y := aheadM q.start B + q.was) hs (by unfold M.end_; omega) (by omega) (by omega)
      have h0 : 0 ≤ aheadM p.start q.end_ := hch.1
      show e ≤ aheadM p.start B
      omega

def nearP (L : List M) (n : Int) : Prop := match L with | [] => True | q :: _ => Close q.start L ∧ -1073741824 < aheadM n q.start ∧ aheadM n q.start < 1073741824
def outP (L : List M) (n : Int) : Prop := ∀ p ∈ L, ¬ (0 < aheadM n p.start ∧ aheadM n p.start < p.was)

/-- A truth of which, if it is b, something holds. -/
def Tells (w : World) (b : Bool) (p : Prop) (r : Value × World) : Prop := ∃ c, r.1 = .bool c ∧ Bel w r.2 ∧ (c = b → p)

theorem k14 {w : World} {s : Value} {Y : List (Part × List By)} {n : Int} (hv : Parts w s Y) : Brings (Xcall Try.prog (Value.func (Fn.func 14) #[] #[]) #[s, .int .u32 n] w) (Tells w true (nearP (partsM [] (Y.take 30)) n)) := by
  refine e14 ?_
  unfold s14
  refine (oneR_new (Bel.refl w)).bind ?_
  rintro ⟨_, w1⟩ ⟨a, h1, b1, o1⟩
  simp only at h1 b1 o1
  subst h1
  simp only
  have h63 := hv.small
  refine Brings.loop (fun m xs w' => ∃ (i : Nat) (f : Bool) (B : Int), xs = [s, .int .u32 n, .bool false, .bool f, .int .u32 B, .pointer (some ⟨a, 0, none⟩), .int .i64 i] ∧ i ≤ Y.length ∧ i ≤ 30 ∧ m = 30 - i ∧ OneR w w' a (partsM [] (Y.take i)) ∧
      (f = true → partsM [] (Y.take i) = []) ∧ (f = false → ∃ q Lr, partsM [] (Y.take i) = q :: Lr ∧ B = q.start ∧ Close B (q :: Lr))) ?_ 30 _ _
    ⟨0, true, 0, rfl, by omega, by omega, by omega, o1, fun _ => rfl, fun h => by cases h⟩
  rintro m xs w' ⟨i, f, B, rfl, hi, hi30, hm, T, hF, hB⟩
  have fin : ¬ (i < Y.length ∧ i < 30) → Brings (s14R0 (.exit 0) [s, .int .u32 n, .bool false, .bool f, .int .u32 B, .pointer (some ⟨a, 0, none⟩), .int .i64 i] w') (Tells w true (nearP (partsM [] (Y.take 30)) n)) := fun hn => by
    rw [take_all hi hi30 hn]
    simp only [s14R0]
    refine k18.bind ?_
    rintro _ rfl
    cases f with
    | true =>
      simp only [go_sem]
      exact .ret ⟨_, rfl, T.1, fun _ => by rw [hF rfl]; exact trivial⟩
    | false =>
      obtain ⟨q, Lr, e1, e2, e3⟩ := hB rfl
      simp only [go_sem]
      cases c1 : decide (-1073741824 < aheadM n B) <;> simp only [go_sem]
      · exact .ret ⟨_, rfl, T.1, fun h => by cases h⟩
      · refine .ret ⟨_, rfl, T.1, fun h => ?_⟩
        rw [e1]
        subst e2
        exact ⟨e3, by simpa using c1, by simpa using h⟩
  simp only [s14B0, hv.lenq, go_sem]
  by_cases h1 : i < Y.length
  · have e1 : decide ((i : Int) < Y.length) = true := by rw [decide_eq_true_iff]; omega
    by_cases h2 : i < 30
    · have e2 : decide ((i : Int) < 30) = true := by rw [decide_eq_true_iff]; omega
      have bd : Bel w' w'.drew := (Bel.refl _).drew
      have T1 := T.bel bd
      obtain ⟨y, g, o, hy, hix, hc, ht⟩ := (hv.bel T1.1).at_ h1
      have hu := u32_ok ht.2.1.1
      simp only [e1, e2, hix, Part.f0 hc, Part.f1 hc, Part.f2 hc, go_sem]
      refine (T1.add (p := toM y) ht.1 hu.1 hu.2).bind ?_
      rintro ⟨_, w3⟩ ⟨e3, T3⟩
      simp only at e3 T3
      subst e3
      have w1' : IntKind.i64.wrap ((i : Int) + 1) = ((i + 1 : Nat) : Int) := by rw [wrap_i64 (by omega) (by omega)]; rfl
      have hstep := parts_step hy []
      rw [← hstep] at T3
      obtain ⟨y', g', o', hy', hix', hc3, ht3⟩ := (hv.bel T3.1).at_ h1
      have ey : y' = y := by rw [hy] at hy'; injection hy' with h; exact h.symm
      subst ey
      have egg : g' = g ∧ o' = o := by
        have := (hix' w3).symm.trans (hix w3)
        injection this with this; injection this with this; injection this with this; injection this with h1 h2
        exact ⟨h1, h2⟩
      obtain ⟨rfl, rfl⟩ := egg
      rcases add_cases (partsM [] (Y.take i)) (toM y') with ⟨a1, a2, _⟩ | ⟨a1, a2⟩
      · rw [a2] at hstep
        simp only [a1, bne_self_eq_false, go_sem]
        -- the step with the first one known
        have step : ∀ (B' : Int) (q : M) (Lr : List M), partsM [] (Y.take (i + 1)) = q :: Lr → B' = q.start → (∀ p ∈ partsM [] (Y.take i), 0 ≤ aheadM p.start B' ∧ aheadM p.start B' ≤ 536870912) → Brings (s14M1 s (.int .u32 n) (.bool false) (.bool false) (.int .u32 B') (.pointer (some ⟨a, 0, none⟩)) (.int .i64 i) w3)
            (fun r => (r.1 = .normal ∧ ∃ m', m' < m ∧ ∃ (i : Nat) (f : Bool) (B : Int), r.2.1 = [s, .int .u32 n, .bool false, .bool f, .int .u32 B, .pointer (some ⟨a, 0, none⟩), .int .i64 i] ∧ i ≤ Y.length ∧ i ≤ 30 ∧ m' = 30 - i ∧ OneR w r.2.2 a (partsM [] (Y.take i)) ∧ (f = true → partsM [] (Y.take i) = []) ∧ (f = false → ∃ q Lr, partsM [] (Y.take i) = q :: Lr ∧ B = q.start ∧ Close B (q :: Lr))) ∨ (r.1 ≠ .normal ∧ Brings (s14R0 r.1 r.2.1 r.2.2) (Tells w true (nearP (partsM [] (Y.take 30)) n)))) := by
          intro B' q Lr hq hB' hall
          unfold s14M1
          simp only [hix, Part.f0 hc3, go_sem]
          refine k18.bind ?_
          rintro _ rfl
          simp only [go_sem]
          cases c1 : decide (aheadM y'.1.start B' < 0) <;> simp only [go_sem]
          · cases c2 : decide (536870912 < aheadM y'.1.start B') <;> simp only [go_sem]
            · rw [w1']
              refine .ret (.inl ⟨rfl, 30 - (i + 1), by omega, i + 1, false, B', rfl, by omega, by omega, rfl, T3, fun h => by (cases h), fun _ => ⟨q, Lr, hq, hB', ?_⟩⟩)
              rw [← hq, hstep]
              intro p hp
              rcases List.mem_append.1 hp with hp | hp
              · exact hall p hp
              · obtain rfl := List.mem_singleton.1 hp
                have g1 : ¬ aheadM y'.1.start B' < 0 := by simpa using c1
                have g2 : ¬ 536870912 < aheadM y'.1.start B' := by simpa using c2
                exact ⟨by show 0 ≤ aheadM y'.1.start B'; omega, by show aheadM y'.1.start B' ≤ 536870912; omega⟩
            · exact .ret (.inr ⟨by simp, .ret ⟨_, rfl, T3.1, fun h => by cases h⟩⟩)
          · exact .ret (.inr ⟨by simp, .ret ⟨_, rfl, T3.1, fun h => by cases h⟩⟩)
        cases f with
        | true =>
          simp only [hix, Part.f0 hc3, go_sem]
          have hnil := hF rfl
          rw [hnil] at hstep
          exact step _ (toM y') [] hstep rfl (by rw [hnil]; intro p hp; cases hp)
        | false =>
          obtain ⟨q, Lr, q1, q2, q3⟩ := hB rfl
          simp only [go_sem]
          exact step B q (Lr ++ [toM y']) (by rw [hstep, q1]; rfl) q2 (by rw [q1]; exact q3)
      · rw [a2] at hstep
        have : ((addM (partsM [] (Y.take i)) (toM y')).1 != 0) = true := by simpa using a1
        simp only [this, go_sem]
        rw [w1']
        exact .ret (.inl ⟨rfl, 30 - (i + 1), by omega, i + 1, f, B, rfl, by omega, by omega, rfl, T3, fun h => by rw [hstep]; exact hF h, fun h => by rw [hstep]; exact hB h⟩)
    · have e2 : decide ((i : Int) < 30) = false := by rw [decide_eq_false_iff_not]; omega
      simp only [e1, e2, go_sem]
      exact .ret (.inr ⟨by simp, fin (by omega)⟩)
  · have e1 : decide ((i : Int) < Y.length) = false := by rw [decide_eq_false_iff_not]; omega
    simp only [e1, go_sem]
    exact .ret (.inr ⟨by simp, fin (by omega)⟩)

theorem k15 {w : World} {s : Value} {Y : List (Part × List By)} {n : Int} (hv : Parts w s Y) : Brings (Xcall Try.prog (Value.func (Fn.func 15) #[] #[]) #[s, .int .u32 n] w) (Tells w false (outP (partsM [] (Y.take 30)) n)) := by
  refine e15 ?_
  unfold s15
  refine (oneR_new (Bel.refl w)).bind ?_
  rintro ⟨_, w1⟩ ⟨a, h1, b1, o1⟩
  simp only at h1 b1 o1
  subst h1
  simp only
  have h63 := hv.small
  refine Brings.loop (fun m xs w' => ∃ i : Nat, xs = [s, .int .u32 n, .bool false, .pointer (some ⟨a, 0, none⟩), .int .i64 i] ∧ i ≤ Y.length ∧ i ≤ 30 ∧ m = 30 - i ∧ OneR w w' a (partsM [] (Y.take i)) ∧ outP (partsM [] (Y.take i)) n) ?_ 30 _ _
    ⟨0, rfl, by omega, by omega, by omega, o1, fun p hp => by cases hp⟩
  rintro m xs w' ⟨i, rfl, hi, hi30, hm, T, hO⟩
  have fin : ¬ (i < Y.length ∧ i < 30) → Brings (s15R0 (.exit 0) [s, .int .u32 n, .bool false, .pointer (some ⟨a, 0, none⟩), .int .i64 i] w') (Tells w false (outP (partsM [] (Y.take 30)) n)) := fun hn => by
    rw [take_all hi hi30 hn]
    exact .ret ⟨_, rfl, T.1, fun _ => hO⟩
  simp only [s15B0, hv.lenq, go_sem]
  by_cases h1 : i < Y.length
  · have e1 : decide ((i : Int) < Y.length) = true := by rw [decide_eq_true_iff]; omega
    by_cases h2 : i < 30
    · have e2 : decide ((i : Int) < 30) = true := by rw [decide_eq_true_iff]; omega
      have bd : Bel w' w'.drew := (Bel.refl _).drew
      have T1 := T.bel bd
      obtain ⟨y, g, o, hy, hix, hc, ht⟩ := (hv.bel T1.1).at_ h1
      have hu := u32_ok ht.2.1.1
      simp only [e1, e2, hix, Part.f0 hc, Part.f1 hc, Part.f2 hc, go_sem]
      refine (T1.add (p := toM y) ht.1 hu.1 hu.2).bind ?_
      rintro ⟨_, w3⟩ ⟨e3, T3⟩
      simp only at e3 T3
      subst e3
      have w1' : IntKind.i64.wrap ((i : Int) + 1) = ((i + 1 : Nat) : Int) := by rw [wrap_i64 (by omega) (by omega)]; rfl
      have hstep := parts_step hy []
      rw [← hstep] at T3
      obtain ⟨y', g', o', hy', hix', hc3, ht3⟩ := (hv.bel T3.1).at_ h1
      have ey : y' = y := by rw [hy] at hy'; injection hy' with h; exact h.symm
      subst ey
      have egg : g' = g ∧ o' = o := by
        have := (hix' w3).symm.trans (hix w3)
        injection this with this; injection this with this; injection this with this; injection this with h1 h2
        exact ⟨h1, h2⟩
      obtain ⟨rfl, rfl⟩ := egg
      rcases add_cases (partsM [] (Y.take i)) (toM y') with ⟨a1, a2, _⟩ | ⟨a1, a2⟩
      · rw [a2] at hstep
        simp only [a1, bne_self_eq_false, hix, Part.f0 hc3, go_sem]
        refine k18.bind ?_
        rintro _ rfl
        simp only [go_sem]
        have next : ¬ (0 < aheadM n y'.1.start ∧ aheadM n y'.1.start < y'.1.was) → outP (partsM [] (Y.take (i + 1))) n := fun hno => by
          rw [hstep]
          intro p hp
          rcases List.mem_append.1 hp with hp | hp
          · exact hO p hp
          · obtain rfl := List.mem_singleton.1 hp
            exact hno
        cases c1 : decide (0 < aheadM n y'.1.start) <;> simp only [hix, Part.f1 hc3, go_sem]
        · rw [w1']
          refine .ret (.inl ⟨rfl, 30 - (i + 1), by omega, i + 1, rfl, by omega, by omega, rfl, T3, next fun h => ?_⟩)
          have : ¬ 0 < aheadM n y'.1.start := by simpa using c1
          exact this h.1
        · cases c2 : decide (aheadM n y'.1.start < y'.1.was) <;> simp only [go_sem]
          · rw [w1']
            refine .ret (.inl ⟨rfl, 30 - (i + 1), by omega, i + 1, rfl, by omega, by omega, rfl, T3, next fun h => ?_⟩)
            have : ¬ aheadM n y'.1.start < y'.1.was := by simpa using c2
            exact this h.2
          · exact .ret (.inr ⟨by simp, .ret ⟨_, rfl, T3.1, fun h => by cases h⟩⟩)
      · rw [a2] at hstep
        have : ((addM (partsM [] (Y.take i)) (toM y')).1 != 0) = true := by simpa using a1
        simp only [this, go_sem]
        rw [w1']
        exact .ret (.inl ⟨rfl, 30 - (i + 1), by omega, i + 1, rfl, by omega, by omega, rfl, T3, by rw [hstep]; exact hO⟩)
    · have e2 : decide ((i : Int) < 30) = false := by rw [decide_eq_false_iff_not]; omega
      simp only [e1, e2, go_sem]
      exact .ret (.inr ⟨by simp, fin (by omega)⟩)
  · have e1 : decide ((i : Int) < Y.length) = false := by rw [decide_eq_false_iff_not]; omega
    simp only [e1, go_sem]
    exact .ret (.inr ⟨by simp, fin (by omega)⟩)

end Go.Proofs.Ytfakpdegiobpaaa
