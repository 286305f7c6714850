/- Time, Other, Live, and that the package lives. -/
import Derived.Test.YtmhpecfgipmgaaaTr4
namespace Go.Proofs.Ytmhpecfgipmgaaa
open Go Go.Ev
open Go.Proofs

/-! ## The same of both -/

def newsB (back rst syn fin ack beg : Bool) : Int × Bool :=
  if rst then (1, true) else
  if syn && fin then (0, false) else
  if syn && !back && beg then (2, true) else
  if syn then (3, true) else
  if fin then (4, true) else
  if ack then (5, true) else (0, true)
theorem news_B (back : Bool) (n : Int) : newsM back n = newsB back (has n 4) (has n 2) (has n 1) (has n 16) (begins n) := rfl

theorem byte_all {p : Int → Bool} (h : ∀ k : Fin 256, p (k.val : Int) = true) {n : Int} (h0 : 0 ≤ n) (h1 : n < 256) : p n = true := by
  have := h ⟨n.toNat, by omega⟩
  simpa [Int.toNat_of_nonneg h0] using this

theorem begins_same {n : Int} (h0 : 0 ≤ n) (h1 : n < 256) : begins n = beginsR n := by
  have := byte_all (p := fun n => begins n == beginsR n) (by decide +kernel) h0 h1
  simpa using this
theorem begins_bits {n : Int} (h0 : 0 ≤ n) (h1 : n < 256) : begins n = true → has n 2 = true ∧ has n 4 = false ∧ has n 1 = false ∧ has n 16 = false := by
  have := byte_all (p := fun n => !begins n || (has n 2 && !has n 4 && !has n 1 && !has n 16)) (by decide +kernel) h0 h1
  intro hb
  rw [hb] at this
  simpa [and_assoc] using this

theorem tab_out {s : Int} (h : ¬ (0 ≤ s ∧ s ≤ 7)) (nw : Int) : tab 8 (s, nw) = none := by
  unfold tab
  rw [if_neg (by rintro ⟨_, h1, h2⟩; simp only at h1 h2; omega)]
  cases hl : lit (s, nw) with
  | none => rfl
  | some v =>
    obtain ⟨j, hj, _, hr⟩ := laid_iff.1 hl
    have : ∀ j, j < 16 → 0 ≤ (litRow j).1.1 ∧ (litRow j).1.1 ≤ 7 := by decide
    have := this j hj
    rw [hr] at this
    exact absurd this h

theorem next_same {s n : Int} (back : Bool) (h0 : 0 ≤ n) (h1 : n < 256) : nextM s back n = refM s back (has n 4) (has n 2) (has n 1) (has n 16) (beginsR n) := by
  have hb := begins_bits h0 h1
  rw [← begins_same h0 h1]
  unfold nextM
  rw [news_B]
  generalize has n 4 = rst at *
  generalize has n 2 = syn at *
  generalize has n 1 = fin at *
  generalize has n 16 = ack at *
  generalize begins n = beg at *
  by_cases hs : 0 ≤ s ∧ s ≤ 7
  · have : s = 0 ∨ s = 1 ∨ s = 2 ∨ s = 3 ∨ s = 4 ∨ s = 5 ∨ s = 6 ∨ s = 7 := by omega
    rcases this with rfl | rfl | rfl | rfl | rfl | rfl | rfl | rfl <;> revert hb <;> revert back rst syn fin ack beg <;> decide +kernel
  · have e : ∀ k : Int, 0 ≤ k → k ≤ 7 → (s == k) = false := fun k h1 h2 => by simp; omega
    have el : (decide (s < 1) || decide (6 < s)) = true := by simp; omega
    unfold refM
    simp only [tab_out hs, e 0 (by omega) (by omega), e 7 (by omega) (by omega), e 1 (by omega) (by omega), el, Bool.false_and, Bool.false_or, if_true, Bool.false_eq_true, if_false]
    split <;> split <;> rfl

/-! ## Time -/

/-- A map of numbers, by its entries in order. -/
def IsI (es : Array MapEntry) (l : List (Int × Int)) : Prop := es.toList.map (fun e => (e.key, e.val)) = l.map fun p => (Value.int .i64 p.1, Value.int .i64 p.2)
/-- A new map behind all. -/
def wm (w : World) (es : Array MapEntry) (c : Nat) : World := { w with heap := w.heap.push (.map es c) }
theorem wm_at (w : World) (es : Array MapEntry) (c : Nat) : (wm w es c).heap[w.heap.size]? = some (.map es c) := by show (w.heap.push (.map es c))[w.heap.size]? = _; simp
theorem wm_bel (w : World) (es : Array MapEntry) (c : Nat) : Bel w (wm w es c) := (Bel.refl w).alloc (.map es c)

theorem IsI.keys {es : Array MapEntry} {l : List (Int × Int)} (h : IsI es l) : ∀ e ∈ es.toList, ∃ m, e.key = .int .i64 m := by
  intro e he
  have : (e.key, e.val) ∈ l.map fun p => (Value.int .i64 p.1, Value.int .i64 p.2) := by rw [← h]; exact List.mem_map.2 ⟨e, he, rfl⟩
  obtain ⟨p, _, hp⟩ := List.mem_map.1 this
  injection hp with h1 _
  exact ⟨p.1, h1.symm⟩
theorem findI : ∀ (es : List MapEntry) (l : List (Int × Int)) (k : Int) (i : Nat), es.map (fun e => (e.key, e.val)) = l.map (fun p => (Value.int .i64 p.1, Value.int .i64 p.2)) →
    (findM (intQ k) es i).map (·.2) = (l.find? fun p => k == p.1).map fun p => Value.int .i64 p.2
  | [], [], _, _, _ => rfl
  | [], p :: l, _, _, h => by simp at h
  | e :: es, [], _, _, h => by simp at h
  | e :: es, p :: l, k, i, h => by
    simp only [List.map_cons, List.cons.injEq, Prod.mk.injEq] at h
    obtain ⟨⟨h1, h2⟩, h3⟩ := h
    simp only [findM, h1, intQ, List.find?_cons]
    cases hk : k == p.1 with
    | true => simp [h2]
    | false => exact findI es l k (i + 1) h3

theorem insI {w : World} {es : Array MapEntry} {c : Nat} {l : List (Int × Int)} {k v : Int} (h : IsI es l) (hn : (l.find? fun p => k == p.1) = none) :
    ∃ es' c', Xinsert Try.prog 46 (.map (some w.heap.size)) (.int .i64 k) (.int .i64 v) (wm w es c) = some (undef, wm w es' c') ∧ IsI es' (l ++ [(k, v)]) := by
  have hf := findI es.toList l k 0 h
  rw [hn, Option.map_none, Option.map_eq_none_iff] at hf
  refine ⟨es.push { key := .int .i64 k, val := .int .i64 v, born := c }, c + 1, (Xinsert_new (kt := 22) (et := 3) (by kernel_rfl) (wm_at w es c) (keyBy_int (d := .i64) (by kernel_rfl) h.keys) hf).trans ?_, ?_⟩
  · simp only [wm, push_set]
  · unfold IsI at h ⊢
    simp [h]
theorem lookI {w : World} {es : Array MapEntry} {c : Nat} {l : List (Int × Int)} {k : Int} (h : IsI es l) :
    Xlookup Try.prog 46 (.map (some w.heap.size)) (.int .i64 k) false (wm w es c) = some (.int .i64 (((l.find? fun p => k == p.1).map (·.2)).getD 0), wm w es c) := by
  have hf := findI es.toList l k 0 h
  rw [Xlookup_some (kt := 22) (et := 3) (z := .int .i64 0) (by kernel_rfl) (wm_at w es c) (keyBy_int (d := .i64) (by kernel_rfl) h.keys) (by kernel_rfl)]
  cases hl : l.find? fun p => k == p.1 with
  | none =>
    rw [hl, Option.map_none, Option.map_eq_none_iff] at hf
    rw [hf]; rfl
  | some p =>
    rw [hl] at hf
    obtain ⟨⟨j, v⟩, hm, hv⟩ := Option.map_eq_some_iff.1 hf
    rw [hm]
    simp only at hv
    subst hv
    rfl
theorem makeI {w : World} : XmakeMap Try.prog 46 none w = some (.map (some w.heap.size), wm w #[] 0) := rfl

/-- How long in a state. -/
def timeL (p : Int) : List (Int × Int) :=
  if p == 6 then [(1, 120), (2, 60), (3, 432000), (4, 120), (5, 60), (6, 120), (7, 10)]
  else if p == 17 || p == 47 then [(8, 30), (3, 180)] else if p == 1 then [(8, 30), (3, 30)] else [(8, 0), (3, 0)]
def timeM (p s : Int) : Int := (((timeL p).find? fun q => s == q.1).map (·.2)).getD 0

theorem k18M1 {s a b : Int} {w : World} : Brings (s18M1 (.int .i64 s) (.int .i64 a) (.int .i64 b) w) (fun r => r.1 = .int .i64 ((([(8, a), (3, b)].find? fun q => s == q.1).map (·.2)).getD 0) ∧ Bel w r.2) := by
  unfold s18M1
  rw [makeI]
  simp only [go_sem]
  obtain ⟨es1, c1, h1, i1⟩ := insI (w := w) (es := #[]) (c := 0) (l := []) (k := 8) (v := a) rfl rfl
  rw [h1]; simp only [go_sem]
  obtain ⟨es2, c2, h2, i2⟩ := insI (w := w) (c := c1) (k := 3) (v := b) i1 rfl
  rw [h2]; simp only [go_sem]
  rw [lookI i2]; simp only [go_sem]
  exact .ret ⟨rfl, wm_bel _ _ _⟩

theorem k18 {p s : Int} {w : World} : Brings (Xcall Try.prog (Value.func (Fn.func 18) #[] #[]) #[.int .u8 p, .int .i64 s] w) (fun r => r.1 = .int .i64 (timeM p s) ∧ Bel w r.2) := by
  refine e18 ?_
  unfold s18 s18M0 timeM timeL
  simp only [go_sem]
  refine .cond (fun h => ?_) (fun h => ?_)
  · have e0 : w.alloc (.map #[] 0) = wm w #[] 0 := rfl
    simp only [go_sem, h, if_true, e0]
    obtain ⟨es1, c1, h1, i1⟩ := insI (w := w) (es := #[]) (c := 0) (l := []) (k := 1) (v := 120) rfl rfl
    rw [h1]; simp only [go_sem]
    obtain ⟨es2, c2, h2, i2⟩ := insI (w := w) (c := c1) (k := 2) (v := 60) i1 rfl
    rw [h2]; simp only [go_sem]
    obtain ⟨es3, c3, h3, i3⟩ := insI (w := w) (c := c2) (k := 3) (v := 432000) i2 rfl
    rw [h3]; simp only [go_sem]
    obtain ⟨es4, c4, h4, i4⟩ := insI (w := w) (c := c3) (k := 4) (v := 120) i3 rfl
    rw [h4]; simp only [go_sem]
    obtain ⟨es5, c5, h5, i5⟩ := insI (w := w) (c := c4) (k := 5) (v := 60) i4 rfl
    rw [h5]; simp only [go_sem]
    obtain ⟨es6, c6, h6, i6⟩ := insI (w := w) (c := c5) (k := 6) (v := 120) i5 rfl
    rw [h6]; simp only [go_sem]
    obtain ⟨es7, c7, h7, i7⟩ := insI (w := w) (c := c6) (k := 7) (v := 10) i6 rfl
    rw [h7]; simp only [go_sem]
    rw [lookI i7]; simp only [go_sem]
    exact .ret ⟨rfl, wm_bel _ _ _⟩
  simp only [h, Bool.false_eq_true, if_false]
  refine .cond (fun h => ?_) (fun h => ?_)
  · simp only [h, go_sem, Bool.true_or, if_true]; exact k18M1
  simp only [h, Bool.false_or, go_sem]
  refine .cond (fun h => ?_) (fun h => ?_)
  · simp only [h, if_true]; exact k18M1
  simp only [h, Bool.false_eq_true, if_false]
  refine .cond (fun h => ?_) (fun h => ?_)
  · simp only [h, if_true]; exact k18M1
  · simp only [h, Bool.false_eq_true, if_false]; exact k18M1

/-! ## The package lives -/

theorem k14 {w : World} : Brings (Xcall Try.prog (Value.func (Fn.func 14) #[] #[]) #[] w) (fun r => r.1 = .bool true ∧ Bel w r.2) := by
  refine e14 ?_
  unfold s14
  refine k12.bind ?_
  rintro ⟨_, w1⟩ ⟨h, b1⟩
  simp only at h b1
  rw [show nextM 0 false 2 = (1, true) from by decide +kernel] at h
  subst h
  simp only [go_sem]
  refine k12.bind ?_
  rintro ⟨_, w2⟩ ⟨h, b2⟩
  simp only at h b2
  rw [show nextM 1 true 18 = (2, true) from by decide +kernel] at h
  subst h
  simp only [go_sem]
  refine k12.bind ?_
  rintro ⟨_, w3⟩ ⟨h, b3⟩
  simp only at h b3
  rw [show nextM 2 false 16 = (3, true) from by decide +kernel] at h
  subst h
  simp only [go_sem, beq_self_eq_true]
  refine k18.bind ?_
  rintro ⟨_, w4⟩ ⟨h, b4⟩
  simp only at h b4
  rw [show timeM 6 3 = 432000 from by decide +kernel] at h
  subst h
  simp only [go_sem, beq_self_eq_true]
  exact .ret ⟨rfl, (b1.trans b2).trans (b3.trans b4)⟩

end Go.Proofs.Ytmhpecfgipmgaaa
