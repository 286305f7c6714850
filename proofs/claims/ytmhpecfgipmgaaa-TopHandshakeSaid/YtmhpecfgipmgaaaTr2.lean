/- The table of steps. -/
import Derived.Test.YtmhpecfgipmgaaaTr1
import Derived.Test.YtmhpecfgipmgaaaFb
namespace Go.Proofs.Ytmhpecfgipmgaaa
open Go Go.Ev
open Go.Proofs

def atV (p : Int × Int) : Value := .agg #[.int .i64 p.1, .int .i64 p.2]
def atQ (p : Int × Int) (x : Value) : Bool :=
  match x with
  | .agg ⟨[.int _ s, .int _ n]⟩ => p.1 == s && p.2 == n
  | _ => false
theorem atQ_at (p q : Int × Int) : atQ p (atV q) = decide (p = q) := by
  obtain ⟨a, b⟩ := p
  obtain ⟨c, d⟩ := q
  simp only [atQ, atV, Prod.mk.injEq, Bool.decide_and]
  rfl

theorem ck45 (b : Bool) (p : Int × Int) (w : World) : (Instr.checkKey b 10000 45 (atV p)).run Try.prog w = .ok () w := by kernel_rfl
theorem und45 : ∃ fs, Try.prog.underlying 45 = some (.struct fs) := ⟨_, Try.underlying45⟩
theorem eq45 (p q : Int × Int) (w : World) : (Op.equal 45 (atV p) (atV q)).run Try.prog w = .ok (atQ p (atV q)) w := by
  refine eqV_ok (P := Try.prog) ?_
  rw [atQ_at]
  have : eqV Try.prog 45 (atV p) (atV q) = (match p.1 == q.1 with | true => (match p.2 == q.2 with | true => some true | false => some false) | false => some false) := by kernel_rfl
  rw [this]
  obtain ⟨a, b⟩ := p
  obtain ⟨c, d⟩ := q
  have h1 : (decide ((a, b) = (c, d))) = (a == c && b == d) := by simp [Prod.mk.injEq, Bool.decide_and]; rfl
  rw [h1]
  cases e1 : (a == c) <;> cases e2 : (b == d) <;> simp

theorem keyAt {p : Int × Int} {es : List MapEntry} (h : ∀ e ∈ es, ∃ q, e.key = atV q) : KeyBy Try.prog 45 (atV p) (atQ p) es := by
  refine ⟨fun w b => ck45 b p w, fun w => ?_⟩
  obtain ⟨fs, hf⟩ := und45
  simp only [Instr.findKey, Sem.run_bind, run_underlying hf, Result.andThen_ok]
  cases es with
  | nil => rfl
  | cons e es =>
    obtain ⟨q, hq⟩ := h e (by simp)
    have : Instr.findNow (.struct fs) (atV p) (e :: es) 0 = none := by
      simp only [Instr.findNow, hq]; rfl
    simp only [this]
    exact run_findAsking _ _ fun e' he => by
      obtain ⟨q', hq'⟩ := h e' he
      rw [hq']; exact eq45 p q' w

/-- Entries that tell a table's rows, in whatever order. -/
def Tells (es : List MapEntry) (f : Int × Int → Option Int) : Prop :=
  (∀ e ∈ es, ∃ q v, e.key = atV q ∧ e.val = .int .i64 v ∧ f q = some v) ∧ ∀ q v, f q = some v → ∃ e ∈ es, e.key = atV q

theorem findM_none {q : Value → Bool} : ∀ (es : List MapEntry) (i : Nat), (∀ e ∈ es, q e.key = false) → findM q es i = none
  | [], _, _ => rfl
  | e :: es, i, h => by simp only [findM, h e (by simp), Bool.false_eq_true, if_false]; exact findM_none es _ fun e' he => h e' (by simp [he])
theorem findM_some {q : Value → Bool} : ∀ (es : List MapEntry) (i : Nat), (∃ e ∈ es, q e.key = true) → ∃ j, ∃ e ∈ es, q e.key = true ∧ findM q es i = some (j, e.val)
  | [], _, h => by obtain ⟨e, he, _⟩ := h; cases he
  | e :: es, i, h => by
    cases hq : q e.key with
    | true => exact ⟨i, e, by simp, hq, by simp [findM, hq]⟩
    | false =>
      obtain ⟨e', he, h'⟩ := h
      have : e' ∈ es := by
        rcases List.mem_cons.1 he with rfl | he
        · rw [h'] at hq; cases hq
        · exact he
      obtain ⟨j, e2, h1, h2, h3⟩ := findM_some es (i + 1) ⟨e', this, h'⟩
      exact ⟨j, e2, by simp [h1], h2, by simp only [findM, hq, Bool.false_eq_true, if_false]; exact h3⟩

theorem Tells.keys {es : List MapEntry} {f : Int × Int → Option Int} (h : Tells es f) : ∀ e ∈ es, ∃ q, e.key = atV q := fun e he => by
  obtain ⟨q, v, hk, _⟩ := h.1 e he; exact ⟨q, hk⟩
theorem Tells.find {es : List MapEntry} {f : Int × Int → Option Int} (h : Tells es f) (p : Int × Int) : match f p with
    | some v => ∃ j, findM (atQ p) es 0 = some (j, .int .i64 v)
    | none => findM (atQ p) es 0 = none := by
  cases hf : f p with
  | none =>
    refine findM_none es 0 fun e he => ?_
    obtain ⟨q, v, hk, _, hq⟩ := h.1 e he
    rw [hk, atQ_at, decide_eq_false_iff_not]
    rintro rfl
    rw [hf] at hq; cases hq
  | some v =>
    obtain ⟨e, he, hk⟩ := h.2 p v hf
    obtain ⟨j, e', he', hq', hm⟩ := findM_some (q := atQ p) es 0 ⟨e, he, by rw [hk, atQ_at]; simp⟩
    obtain ⟨q, v', hk', hv', hf'⟩ := h.1 e' he'
    rw [hk', atQ_at, decide_eq_true_iff] at hq'
    subst hq'
    rw [hf] at hf'; injection hf' with hf'; subst hf'
    exact ⟨j, by rw [hm, hv']⟩
theorem Tells.push {es : List MapEntry} {f : Int × Int → Option Int} (h : Tells es f) (p : Int × Int) (v : Int) (b : Nat) :
    Tells (es ++ [{ key := atV p, val := .int .i64 v, born := b }]) (fun q => if q = p then some v else f q) ∨ (f p).isSome = true := by
  cases hf : f p with
  | some _ => right; rfl
  | none =>
    left
    constructor
    · intro e he
      rcases List.mem_append.1 he with he | he
      · obtain ⟨q, v', hk, hv, hq⟩ := h.1 e he
        refine ⟨q, v', hk, hv, ?_⟩
        show (if q = p then some v else f q) = some v'
        rw [if_neg]
        · exact hq
        · rintro rfl; rw [hf] at hq; cases hq
      · simp at he; subst he; exact ⟨p, v, rfl, rfl, by simp⟩
    · intro q v' hq
      change (if q = p then some v else f q) = some v' at hq
      by_cases e : q = p
      · subst e; exact ⟨{ key := atV q, val := .int .i64 v, born := b }, by simp, rfl⟩
      · rw [if_neg e] at hq
        obtain ⟨e', he', hk'⟩ := h.2 q v' hq
        exact ⟨e', by simp [he'], hk'⟩

/-- A new row is laid in. -/
theorem insertAt {r : Nat} {es : Array MapEntry} {c : Nat} {f : Int × Int → Option Int} {p : Int × Int} {v : Int} {w : World} (hr : w.heap[r]? = some (.map es c)) (h : Tells es.toList f) (hf : f p = none) :
    ∃ es', Xinsert Try.prog 42 (.map (some r)) (atV p) (.int .i64 v) w = some (undef, { w with heap := w.heap.setIfInBounds r (.map es' (c + 1)) }) ∧ Tells es'.toList (fun q => if q = p then some v else f q) := by
  have h2 := h.find p
  rw [hf] at h2
  refine ⟨_, Xinsert_new (kt := 45) (et := 22) (by kernel_rfl) hr (keyAt h.keys) h2, ?_⟩
  rcases h.push p v c with h | h
  · simpa using h
  · rw [hf] at h; cases h

/-- The rows of the text. -/
def litRows : List ((Int × Int) × Int) :=
  [((0, 2), 1), ((7, 2), 1), ((1, 2), 1), ((6, 2), 1), ((2, 2), 2), ((2, 3), 2), ((2, 4), 4), ((3, 4), 4), ((4, 4), 5), ((5, 4), 5), ((6, 4), 6), ((2, 5), 3), ((3, 5), 3), ((4, 5), 4), ((5, 5), 6), ((6, 5), 6)]
def litRow (j : Nat) : (Int × Int) × Int := litRows.getD j ((0, 0), 0)

noncomputable def ops24 : Array Oper := opsOf (nav [1, 0] (bodyOf Try.f24))

/-- Is the insertion of this row done? -/
def laidF (S : Nat → Bool) (p : Int × Int) : Option Int :=
  ((List.range 16).find? fun j => S (2 * j + 2) && decide ((litRow j).1 = p)).map fun j => (litRow j).2

theorem lit_inj : ∀ j, j < 16 → ∀ i, i < 16 → (litRow j).1 = (litRow i).1 → j = i := by decide

theorem laid_iff {S : Nat → Bool} {p : Int × Int} {v : Int} : laidF S p = some v ↔ ∃ j, j < 16 ∧ S (2 * j + 2) = true ∧ litRow j = (p, v) := by
  unfold laidF
  constructor
  · intro h
    obtain ⟨j, hj, hv⟩ := Option.map_eq_some_iff.1 h
    have h1 := List.find?_some hj
    have h2 := List.mem_of_find?_eq_some hj
    simp only [Bool.and_eq_true, decide_eq_true_eq, List.mem_range] at h1 h2
    exact ⟨j, h2, h1.1, Prod.ext h1.2 hv⟩
  · rintro ⟨j, hj, hS, hr⟩
    cases hf : (List.range 16).find? fun j => S (2 * j + 2) && decide ((litRow j).1 = p) with
    | none =>
      rw [List.find?_eq_none] at hf
      have := hf j (by simpa using hj)
      simp [hS, hr] at this
    | some i =>
      have h1 := List.find?_some hf
      have h2 := List.mem_of_find?_eq_some hf
      simp only [Bool.and_eq_true, decide_eq_true_eq, List.mem_range] at h1 h2
      have : i = j := lit_inj i h2 j hj (by rw [h1.2, hr])
      subst this
      simp [hr]

/-- Ahead of and behind each operation. -/
structure JJ (w0 : World) (S : Nat → Bool) (a : Act) (w : World) : Prop where
  size : a.tmps.size = 29
  start : S 0 = false → w = w0 ∧ (∀ j, j < 16 → S (2 * j + 2) = false) ∧ S 33 = false ∧ S 34 = false
  map : S 0 = true → a.tmps.getD 3 undef = .map (some w0.heap.size) ∧ ∃ es c, w = { w0 with heap := w0.heap.push (.map es c) } ∧ Tells es.toList (laidF S)
  key : ∀ j, j < 16 → S (2 * j + 1) = true → a.tmps.getD (j + 4) undef = atV (litRow j).1
  out1 : S 33 = true → a.tmps.getD 20 undef = .map (some w0.heap.size)
  out2 : S 34 = true → a.tmps.getD 1 undef = .map (some w0.heap.size)

noncomputable def o24 (i : Nat) : Oper := (ops24[i]?).getD default
theorem size24 : ops24.size = 35 := by kernel_rfl
theorem opB : ∀ j, j < 16 → (o24 (2 * j + 1)).op = .build 45 #[(0, .const (.int .i64 (litRow j).1.1)), (1, .const (.int .i64 (litRow j).1.2))] ∧ (o24 (2 * j + 1)).dst = some (j + 4) ∧ (o24 (2 * j + 1)).guard = none
  | 0, _ => ⟨by kernel_rfl, by kernel_rfl, by kernel_rfl⟩
  | 1, _ => ⟨by kernel_rfl, by kernel_rfl, by kernel_rfl⟩
  | 2, _ => ⟨by kernel_rfl, by kernel_rfl, by kernel_rfl⟩
  | 3, _ => ⟨by kernel_rfl, by kernel_rfl, by kernel_rfl⟩
  | 4, _ => ⟨by kernel_rfl, by kernel_rfl, by kernel_rfl⟩
  | 5, _ => ⟨by kernel_rfl, by kernel_rfl, by kernel_rfl⟩
  | 6, _ => ⟨by kernel_rfl, by kernel_rfl, by kernel_rfl⟩
  | 7, _ => ⟨by kernel_rfl, by kernel_rfl, by kernel_rfl⟩
  | 8, _ => ⟨by kernel_rfl, by kernel_rfl, by kernel_rfl⟩
  | 9, _ => ⟨by kernel_rfl, by kernel_rfl, by kernel_rfl⟩
  | 10, _ => ⟨by kernel_rfl, by kernel_rfl, by kernel_rfl⟩
  | 11, _ => ⟨by kernel_rfl, by kernel_rfl, by kernel_rfl⟩
  | 12, _ => ⟨by kernel_rfl, by kernel_rfl, by kernel_rfl⟩
  | 13, _ => ⟨by kernel_rfl, by kernel_rfl, by kernel_rfl⟩
  | 14, _ => ⟨by kernel_rfl, by kernel_rfl, by kernel_rfl⟩
  | 15, _ => ⟨by kernel_rfl, by kernel_rfl, by kernel_rfl⟩
  | n + 16, h => absurd h (by omega)
theorem opI : ∀ j, j < 16 → (o24 (2 * j + 2)).op = .insert 42 (.tmp 3) (.tmp (j + 4)) (.const (.int .i64 (litRow j).2)) ∧ (o24 (2 * j + 2)).dst = none ∧ (o24 (2 * j + 2)).guard = none ∧ edgeTo (o24 (2 * j + 2)) 0 = true ∧ edgeTo (o24 (2 * j + 2)) (2 * j + 1) = true
  | 0, _ => ⟨by kernel_rfl, by kernel_rfl, by kernel_rfl, by kernel_rfl, by kernel_rfl⟩
  | 1, _ => ⟨by kernel_rfl, by kernel_rfl, by kernel_rfl, by kernel_rfl, by kernel_rfl⟩
  | 2, _ => ⟨by kernel_rfl, by kernel_rfl, by kernel_rfl, by kernel_rfl, by kernel_rfl⟩
  | 3, _ => ⟨by kernel_rfl, by kernel_rfl, by kernel_rfl, by kernel_rfl, by kernel_rfl⟩
  | 4, _ => ⟨by kernel_rfl, by kernel_rfl, by kernel_rfl, by kernel_rfl, by kernel_rfl⟩
  | 5, _ => ⟨by kernel_rfl, by kernel_rfl, by kernel_rfl, by kernel_rfl, by kernel_rfl⟩
  | 6, _ => ⟨by kernel_rfl, by kernel_rfl, by kernel_rfl, by kernel_rfl, by kernel_rfl⟩
  | 7, _ => ⟨by kernel_rfl, by kernel_rfl, by kernel_rfl, by kernel_rfl, by kernel_rfl⟩
  | 8, _ => ⟨by kernel_rfl, by kernel_rfl, by kernel_rfl, by kernel_rfl, by kernel_rfl⟩
  | 9, _ => ⟨by kernel_rfl, by kernel_rfl, by kernel_rfl, by kernel_rfl, by kernel_rfl⟩
  | 10, _ => ⟨by kernel_rfl, by kernel_rfl, by kernel_rfl, by kernel_rfl, by kernel_rfl⟩
  | 11, _ => ⟨by kernel_rfl, by kernel_rfl, by kernel_rfl, by kernel_rfl, by kernel_rfl⟩
  | 12, _ => ⟨by kernel_rfl, by kernel_rfl, by kernel_rfl, by kernel_rfl, by kernel_rfl⟩
  | 13, _ => ⟨by kernel_rfl, by kernel_rfl, by kernel_rfl, by kernel_rfl, by kernel_rfl⟩
  | 14, _ => ⟨by kernel_rfl, by kernel_rfl, by kernel_rfl, by kernel_rfl, by kernel_rfl⟩
  | 15, _ => ⟨by kernel_rfl, by kernel_rfl, by kernel_rfl, by kernel_rfl, by kernel_rfl⟩
  | n + 16, h => absurd h (by omega)
theorem op0 : (o24 0).op = .makeMap 42 none ∧ (o24 0).dst = some 3 ∧ (o24 0).guard = none := ⟨by kernel_rfl, by kernel_rfl, by kernel_rfl⟩
theorem op33 : (o24 33).op = .move (.tmp 3) ∧ (o24 33).dst = some 20 ∧ (o24 33).guard = none ∧ edgeTo (o24 33) 0 = true := ⟨by kernel_rfl, by kernel_rfl, by kernel_rfl, by kernel_rfl⟩
theorem op34 : (o24 34).op = .assign (.tmp 20) ∧ (o24 34).dst = some 1 ∧ (o24 34).guard = none ∧ edgeTo (o24 34) 33 = true ∧ edgeTo (o24 34) 0 = true := ⟨by kernel_rfl, by kernel_rfl, by kernel_rfl, by kernel_rfl, by kernel_rfl⟩

theorem edge_S {o : Oper} {i : Nat} {S : Nat → Bool} (h : edgeTo o i = true) (hS : ∀ e ∈ o.after, Region.binds .any e = true → S e.on = true) : S i = true := by
  unfold edgeTo at h
  rw [List.any_eq_true] at h
  obtain ⟨e, he, hb⟩ := h
  rw [Bool.and_eq_true] at hb
  have := hS e (by simpa using he) hb.1
  rw [← eq_of_beq hb.2]; exact this

theorem build45 (p : Int × Int) (w : World) : Qbuild Try.prog 45 #[(0, .int .i64 p.1), (1, .int .i64 p.2)] w = some (atV p) := by kernel_rfl
theorem eval_tmp (a : Act) (t : Nat) : a.eval (.tmp t) = a.tmps.getD t undef := rfl
theorem push_set {α : Type} (xs : Array α) (x y : α) : (xs.push x).setIfInBounds xs.size y = xs.push y := by
  apply Array.ext'
  simp

theorem put_other {a : Act} {d t : Nat} {v : Value} (h : t ≠ d) : (a.put (some d) v).tmps.getD t undef = a.tmps.getD t undef := by
  show (a.tmps.setIfInBounds d v).getD t undef = _
  rw [getD_set, if_neg h]
theorem put_same {a : Act} {d : Nat} {v : Value} (h : d < a.tmps.size) : (a.put (some d) v).tmps.getD d undef = v := by
  show (a.tmps.setIfInBounds d v).getD d undef = _
  rw [getD_set, if_pos rfl, if_pos h]
theorem put_size {a : Act} {d : Option Nat} {v : Value} : (a.put d v).tmps.size = a.tmps.size := by cases d <;> simp [Act.put]

theorem laid_same {S : Nat → Bool} {i : Nat} (h : ∀ j, j < 16 → 2 * j + 2 ≠ i) : laidF (fun j => S j || j == i) = laidF S := by
  funext p
  apply Option.ext
  intro v
  rw [laid_iff, laid_iff]
  constructor
  · rintro ⟨j, hj, hs, hr⟩
    have : (2 * j + 2 == i) = false := by simpa using h j hj
    rw [this, Bool.or_false] at hs
    exact ⟨j, hj, hs, hr⟩
  · rintro ⟨j, hj, hs, hr⟩
    exact ⟨j, hj, by rw [hs]; rfl, hr⟩

theorem step24 (w0 : World) (S : Nat → Bool) (a : Act) (w : World) (i : Nat) (o : Oper) (h : JJ w0 S a w) (ho : ops24[i]? = some o) (hi : S i = false)
    (he : ∀ e ∈ o.after, Region.binds .any e = true → S e.on = true) :
    ∃ v w', (res Try.prog ops24 a w o).to w = some (v, w') ∧ JJ w0 (fun j => S j || j == i) (a.put o.dst v) w' := by
  have hlt : i < 35 := by rw [← size24]; exact (Array.getElem?_eq_some_iff.1 ho).1
  have hoi : o = o24 i := by unfold o24; rw [ho]; rfl
  subst hoi
  have hor : ∀ j, (S j || j == i) = true → j ≠ i → S j = true := fun j hj hne => by
    have : (j == i) = false := by simpa using hne
    rwa [this, Bool.or_false] at hj
  have hof : ∀ j, j ≠ i → (S j || j == i) = S j := fun j hne => by
    have : (j == i) = false := by simpa using hne
    rw [this, Bool.or_false]
  rcases (show i = 0 ∨ (∃ j, j < 16 ∧ i = 2 * j + 1) ∨ (∃ j, j < 16 ∧ i = 2 * j + 2) ∨ i = 33 ∨ i = 34 by
    by_cases e0 : i = 0
    · exact .inl e0
    · right
      by_cases e1 : i < 33
      · rcases Nat.mod_two_eq_zero_or_one i with h | h
        · right; left; exact ⟨(i - 2) / 2, by omega, by omega⟩
        · left; exact ⟨(i - 1) / 2, by omega, by omega⟩
      · right; right; omega) with rfl | ⟨j, hj, rfl⟩ | ⟨j, hj, rfl⟩ | rfl | rfl
  · -- the map
    obtain ⟨h1, h2, h3⟩ := op0
    obtain ⟨rfl, hn, h33, h34⟩ := h.start hi
    refine ⟨.map (some w.heap.size), w.alloc (.map #[] 0), ?_, ?_⟩
    · unfold res; rw [h1, h3]; rfl
    rw [h2]
    refine ⟨by rw [put_size]; exact h.size, fun hf => by simp at hf, fun _ => ⟨put_same (by rw [h.size]; omega), #[], 0, rfl, ?_⟩, fun j hj hs => ?_, fun hs => ?_, fun hs => ?_⟩
    · rw [laid_same (fun j _ => by omega)]
      refine ⟨fun e he => by simp at he, fun q v hq => ?_⟩
      obtain ⟨j, hj, hs, _⟩ := laid_iff.1 hq
      rw [hn j hj] at hs; cases hs
    · rw [put_other (by omega)]; exact h.key j hj (hor _ hs (by omega))
    · rw [put_other (by omega)]; exact h.out1 (hor _ hs (by omega))
    · rw [put_other (by omega)]; exact h.out2 (hor _ hs (by omega))
  · -- a key
    obtain ⟨h1, h2, h3⟩ := opB j hj
    refine ⟨atV (litRow j).1, w, ?_, ?_⟩
    · unfold res; rw [h1, h3]
      show (evQ Try.prog a.eval (.build 45 _) _ w).map _ = _
      show (Qbuild Try.prog 45 #[(0, .int .i64 (litRow j).1.1), (1, .int .i64 (litRow j).1.2)] w).map _ = _
      rw [build45]; rfl
    rw [h2]
    refine ⟨by rw [put_size]; exact h.size, fun hf => ?_, fun hs => ?_, fun k hk hs => ?_, fun hs => ?_, fun hs => ?_⟩
    · rw [hof 0 (by omega)] at hf
      obtain ⟨e, hn, h33, h34⟩ := h.start hf
      exact ⟨e, fun k hk => by rw [hof _ (by omega)]; exact hn k hk, by rw [hof _ (by omega)]; exact h33, by rw [hof _ (by omega)]; exact h34⟩
    · obtain ⟨e1, e2⟩ := h.map (hor _ hs (by omega))
      rw [put_other (by omega), laid_same (fun j _ => by omega)]; exact ⟨e1, e2⟩
    · by_cases e : k = j
      · subst e; exact put_same (by rw [h.size]; omega)
      · rw [put_other (by omega)]; exact h.key k hk (hor _ hs (by omega))
    · rw [put_other (by omega)]; exact h.out1 (hor _ hs (by omega))
    · rw [put_other (by omega)]; exact h.out2 (hor _ hs (by omega))
  · -- a row
    obtain ⟨h1, h2, h3, h4, h5⟩ := opI j hj
    have hS0 := edge_S h4 he
    have hS1 := edge_S h5 he
    obtain ⟨em, es, c, hw, ht⟩ := h.map hS0
    have hk := h.key j hj hS1
    have hr : w.heap[w0.heap.size]? = some (.map es c) := by rw [hw]; simp
    have hfn : laidF S (litRow j).1 = none := by
      cases hf : laidF S (litRow j).1 with
      | none => rfl
      | some v =>
        obtain ⟨k, hk, hs, hr⟩ := laid_iff.1 hf
        have : k = j := lit_inj k hk j hj (by rw [hr])
        subst this
        rw [hi] at hs; cases hs
    obtain ⟨es', hx, ht'⟩ := insertAt (v := (litRow j).2) hr ht hfn
    refine ⟨undef, { w with heap := w.heap.setIfInBounds w0.heap.size (.map es' (c + 1)) }, ?_, ?_⟩
    · unfold res; rw [h1, h3]
      show Xinsert Try.prog 42 (a.eval (.tmp 3)) (a.eval (.tmp (j + 4))) (.int .i64 (litRow j).2) w = _
      rw [eval_tmp, eval_tmp, em, hk]
      exact hx
    rw [h2]
    refine ⟨h.size, fun hf => ?_, fun _ => ⟨em, es', c + 1, ?_, ?_⟩, fun k hk hs => h.key k hk (hor _ hs (by omega)), fun hs => h.out1 (hor _ hs (by omega)), fun hs => h.out2 (hor _ hs (by omega))⟩
    · rw [hof 0 (by omega), hS0] at hf; cases hf
    · rw [hw]; simp only [push_set]
    · have : laidF (fun k => S k || k == 2 * j + 2) = fun q => if q = (litRow j).1 then some (litRow j).2 else laidF S q := by
        funext q
        apply Option.ext
        intro v
        rw [laid_iff]
        constructor
        · rintro ⟨k, hk, hs, hr⟩
          by_cases e : k = j
          · subst e; rw [if_pos (by rw [hr]), hr]
          · rw [if_neg]
            · exact laid_iff.2 ⟨k, hk, hor _ hs (by omega), hr⟩
            · intro eq; exact e (lit_inj k hk j hj (by rw [hr]; exact eq))
        · intro hv
          by_cases e : q = (litRow j).1
          · rw [if_pos e] at hv; injection hv with hv
            exact ⟨j, hj, by simp, Prod.ext e.symm hv⟩
          · rw [if_neg e] at hv
            obtain ⟨k, hk, hs, hr⟩ := laid_iff.1 hv
            exact ⟨k, hk, by rw [hs]; rfl, hr⟩
      rw [this]; exact ht'
  · obtain ⟨h1, h2, h3, h4⟩ := op33
    have hS0 := edge_S h4 he
    obtain ⟨em, hw⟩ := h.map hS0
    refine ⟨.map (some w0.heap.size), w, ?_, ?_⟩
    · unfold res; rw [h1, h3]
      show some (a.eval (.tmp 3), w) = _
      rw [eval_tmp, em]
    rw [h2]
    refine ⟨by rw [put_size]; exact h.size, fun hf => ?_, fun _ => ?_, fun k hk hs => ?_, fun hs => put_same (by rw [h.size]; omega), fun hs => ?_⟩
    · rw [hof 0 (by omega), hS0] at hf; cases hf
    · rw [put_other (by omega), laid_same (fun j _ => by omega)]; exact ⟨em, hw⟩
    · rw [put_other (by omega)]; exact h.key k hk (hor _ hs (by omega))
    · rw [put_other (by omega)]; exact h.out2 (hor _ hs (by omega))
  · obtain ⟨h1, h2, h3, h4, h5⟩ := op34
    have hS0 := edge_S h5 he
    have hS33 := edge_S h4 he
    obtain ⟨em, hw⟩ := h.map hS0
    refine ⟨.map (some w0.heap.size), w, ?_, ?_⟩
    · unfold res; rw [h1, h3]
      show some (a.eval (.tmp 20), w) = _
      rw [eval_tmp, h.out1 hS33]
    rw [h2]
    refine ⟨by rw [put_size]; exact h.size, fun hf => ?_, fun _ => ?_, fun k hk hs => ?_, fun hs => ?_, fun hs => put_same (by rw [h.size]; omega)⟩
    · rw [hof 0 (by omega), hS0] at hf; cases hf
    · rw [put_other (by omega), laid_same (fun j _ => by omega)]; exact ⟨em, hw⟩
    · rw [put_other (by omega)]; exact h.key k hk (hor _ hs (by omega))
    · rw [put_other (by omega)]; exact h.out1 (hor _ hs (by omega))

theorem back24 : ∀ j i, Edge1 ops24 j i → i < j := back_of (by kernel_rfl)

/-- The rows of the text, all laid. -/
def lit (p : Int × Int) : Option Int := laidF (fun _ => true) p

theorem region24 (t : Nat) {a : Act} {w : World} (ha : a.tmps.size = 29) :
    ∃ a' es c, evIdx Try.prog ops24 (Region.linearise .any ops24 t) a w = some (a', { w with heap := w.heap.push (.map es c) }) ∧ a'.tmps.getD 1 undef = .map (some w.heap.size) ∧ Tells es.toList lit := by
  obtain ⟨S, a', w', h1, h2, h3⟩ := lin_inv (P := Try.prog) (JJ w) back24 (a := a) (w := w)
    ⟨ha, fun _ => ⟨rfl, fun _ _ => rfl, rfl, rfl⟩, fun h => by simp at h, fun _ _ h => by simp at h, fun h => by simp at h, fun h => by simp at h⟩ (step24 w) t
  have hall : ∀ i, i < 35 → S i = true := fun i hi => h3 i (by rw [size24]; exact hi)
  obtain ⟨_, es, c, hw, ht⟩ := h2.map (hall 0 (by omega))
  subst hw
  refine ⟨a', es, c, h1, h2.out2 (hall 34 (by omega)), ?_⟩
  have : laidF S = lit := by
    funext p
    apply Option.ext
    intro v
    unfold lit
    rw [laid_iff, laid_iff]
    constructor
    · rintro ⟨j, hj, _, hr⟩; exact ⟨j, hj, rfl, hr⟩
    · rintro ⟨j, hj, _, hr⟩; exact ⟨j, hj, hall _ (by omega), hr⟩
  rw [← this]; exact ht

end Go.Proofs.Ytmhpecfgipmgaaa
