/- What Next, and what is beside it, come to. -/
import Derived.Test.YtmhpecfgipmgaaaTr2
namespace Go.Proofs.Ytmhpecfgipmgaaa
open Go Go.Ev
open Go.Proofs

/-- The table, with the resets of the states ahead of s. -/
def tab (s : Int) (p : Int × Int) : Option Int := if p.2 = 1 ∧ 1 ≤ p.1 ∧ p.1 < s then some 7 else lit p

theorem lit_no1 (s : Int) : lit (s, 1) = none := by
  cases h : lit (s, 1) with
  | none => rfl
  | some v =>
    obtain ⟨j, hj, _, hr⟩ := laid_iff.1 h
    have : ∀ j, j < 16 → (litRow j).1.2 ≠ 1 := by decide
    exact absurd (by rw [hr]) (this j hj)
theorem tab_one : tab 1 = lit := by
  funext p
  unfold tab
  rw [if_neg]
  rintro ⟨_, h1, h2⟩; omega
theorem tab_step (s : Int) (h1 : 1 ≤ s) : tab (s + 1) = fun q => if q = (s, 1) then some 7 else tab s q := by
  funext q
  obtain ⟨a, b⟩ := q
  unfold tab
  by_cases e : (a, b) = (s, 1)
  · injection e with e1 e2
    subst e1 e2
    simp; omega
  · rw [if_neg e]
    have : (b = 1 ∧ 1 ≤ a ∧ a < s + 1) ↔ (b = 1 ∧ 1 ≤ a ∧ a < s) := by
      constructor
      · rintro ⟨h, h2, h3⟩
        subst h
        refine ⟨rfl, h2, ?_⟩
        have : a ≠ s := fun e' => e (by rw [e'])
        omega
      · rintro ⟨h, h2, h3⟩; exact ⟨h, h2, by omega⟩
    simp only [this]

theorem wrap_small {n : Int} (h0 : 0 ≤ n) (h1 : n < 1000000) : IntKind.i64.wrap n = n := by
  unfold IntKind.wrap
  simp only [IntKind.bits, IntKind.signed]
  simp
  omega

theorem k24 {w : World} : Brings (Xcall Try.prog (Value.func (Fn.func 24) #[] #[]) #[] w)
    (fun r => ∃ b es c, r.1 = .map (some b) ∧ Bel w r.2 ∧ r.2.heap[b]? = some (.map es c) ∧ Tells es.toList (tab 8)) := by
  refine e24 ?_
  unfold s24
  obtain ⟨a', es, c, he, hm, ht⟩ := region24 (w.tape w.drawn (.order 24 1)) (a := ⟨[(Go.Value.map none), undef, undef, undef, undef, undef, undef, undef, undef, undef, undef, undef, undef, undef, undef, undef, undef, undef, undef, undef, undef, undef, undef, undef, undef, undef, undef, undef, undef].toArray, []⟩) (w := w.drew) rfl
  unfold ops24 at he
  rw [he]
  simp only [go_sem, hm]
  unfold s24M0
  refine Brings.loop (fun n xs w1 => ∃ s : Int, xs = [.map (some w.heap.size), .int .i64 s] ∧ 1 ≤ s ∧ s ≤ 8 ∧ n = (8 - s).toNat ∧ ∃ es c, w1 = { w.drew with heap := w.heap.push (.map es c) } ∧ Tells es.toList (tab s)) ?_ 7 _ _
    ⟨1, rfl, by omega, by omega, rfl, es, c, rfl, by rw [tab_one]; exact ht⟩
  rintro n xs w1 ⟨s, rfl, h1, h8, hn, es, c, rfl, ht⟩
  simp only [s24B1, go_sem]
  refine .cond (fun hle => ?_) (fun hle => ?_)
  · have hle : s ≤ 7 := by simpa using hle
    obtain ⟨es', hx, ht'⟩ := insertAt (es := es) (c := c) (r := w.heap.size) (p := (s, 1)) (v := 7) (w := { w.drew with heap := w.heap.push (.map es c) }) (by simp) ht (by
      unfold tab
      rw [if_neg (by rintro ⟨_, _, h⟩; exact absurd h (by simp)), lit_no1])
    have hb := build45 (s, 1) { w.drew with heap := w.heap.push (.map es c) }
    simp only at hb
    rw [hb]
    simp only [go_sem, hx]
    refine .ret (.inl ⟨rfl, (8 - (s + 1)).toNat, by omega, s + 1, ?_, by omega, by omega, rfl, es', c + 1, ?_, by rw [tab_step s h1]; exact ht'⟩)
    · rw [wrap_small (by omega) (by omega)]
    · simp only [push_set]
  · have hle : ¬ s ≤ 7 := by simpa using hle
    have : s = 8 := by omega
    subst this
    refine .ret (.inr ⟨by simp, .ret ⟨w.heap.size, es, c, rfl, ?_, by simp, ht⟩⟩)
    exact (Bel.refl w).drew.alloc (.map es c)

/-- The state behind a segment. -/
def nextM (s : Int) (back : Bool) (n : Int) : Int × Bool :=
  if (newsM back n).2 = false then (0, false)
  else if (s == 1 && (newsM back n).1 == 3 && back) = true then (2, true)
  else match tab 8 (s, (newsM back n).1) with
    | some v => (v, true)
    | none => (0, false)

theorem k12 {s n : Int} {back : Bool} {w : World} : Brings (Xcall Try.prog (Value.func (Fn.func 12) #[] #[]) #[.int .i64 s, .bool back, .int .u8 n] w)
    (fun r => r.1 = .tuple #[.int .i64 (nextM s back n).1, .bool (nextM s back n).2] ∧ Bel w r.2) := by
  refine e12 ?_
  unfold s12
  refine k23.bind ?_
  rintro ⟨_, w1⟩ ⟨h1, hb1⟩
  simp only at h1 hb1
  subst h1
  unfold nextM
  generalize newsM back n = x
  obtain ⟨nw, ok⟩ := x
  simp only [go_sem]
  cases ok with
  | false => simp only [go_sem, Bool.not_false, if_true]; exact .ret ⟨rfl, hb1⟩
  | true =>
    simp only [go_sem, Bool.not_true, Bool.true_eq_false, if_false]
    have tail : Brings ((Xcall Try.prog (Value.func (Fn.func 24) #[] #[]) #[] w1).bind fun r241 =>
      (Qbuild Try.prog 45 #[(0, .int .i64 s), (1, .int .i64 nw)] r241.2).bind fun v242 =>
      (Xlookup Try.prog 42 r241.1 v242 true r241.2).bind fun r243 =>
      (Qext r243.1 0).bind fun v244 =>
      (Qext r243.1 1).bind fun v245 =>
      some ((Value.tuple #[v244, v245]), r243.2)) (fun r => r.1 = .tuple #[.int .i64 (match tab 8 (s, nw) with | some v => (v, true) | none => (0, false)).1, .bool (match tab 8 (s, nw) with | some v => (v, true) | none => (0, false)).2] ∧ Bel w r.2) := by
      refine k24.bind ?_
      rintro ⟨_, w2⟩ ⟨b, es, c, h2, hb2, hr, ht⟩
      simp only at h2 hb2 hr
      subst h2
      simp only
      have hb := build45 (s, nw) w2
      simp only at hb
      rw [hb]
      simp only [go_sem]
      rw [Xlookup_some (kt := 45) (et := 22) (z := .int .i64 0) (by kernel_rfl) hr (keyAt ht.keys) (by kernel_rfl)]
      have hf := ht.find (s, nw)
      cases htab : tab 8 (s, nw) with
      | none => rw [htab] at hf; simp only [hf, if_true, go_sem]; exact .ret ⟨rfl, hb1.trans hb2⟩
      | some v =>
        rw [htab] at hf
        obtain ⟨j, hf⟩ := hf
        simp only [hf, if_true, go_sem]; exact .ret ⟨rfl, hb1.trans hb2⟩
    cases hs : s == 1 with
    | false => simp only [go_sem, Bool.false_and, Bool.false_eq_true, if_false]; exact tail
    | true =>
      simp only [go_sem, Bool.true_and]
      cases hn : nw == 3 with
      | false => simp only [go_sem, Bool.false_and, Bool.false_eq_true, if_false]; exact tail
      | true =>
        simp only [go_sem, Bool.true_and]
        cases back with
        | false => simp only [go_sem, Bool.false_eq_true, if_false]; exact tail
        | true => simp only [go_sem, if_true]; exact .ret ⟨rfl, hb1⟩

end Go.Proofs.Ytmhpecfgipmgaaa
