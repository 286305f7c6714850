/- Objects of rules: contains, and what is added. -/
import Derived.Test.YtiioaklogbjhhaaFg
import Derived.Test.YtiioaklogbjhhaaRu2
namespace Go.Proofs.Ytiioaklogbjhhaa
open Go Go.Ev
open Go.Proofs

theorem Rule.lens (l : List Rule) : ∀ y ∈ l, (Rule.cs y).length = 8 := fun _ _ => rfl
theorem und33 : Try.prog.underlying 33 = some (.slice 26) := by kernel_rfl

/-- An element of a slice of rules, read. -/
theorem getR {w : World} {s : Value} {l : List Rule} (h : View Rule.cs 8 w s l) {n : Int} (h0 : 0 ≤ n) (h1 : n < l.length) :
    ∃ y g o, l[n.toNat]? = some y ∧ s.ownBlock = some g ∧ (∀ w', QindexAddr Try.prog 33 s (.int .i64 n) w' = some (.pointer (some ⟨g, o, none⟩))) ∧ CellsAt y.cs w g o := by
  obtain ⟨i, hi, hs⟩ := inf26
  exact h.get und33 hi hs h0 h1

theorem k41 {s : Value} {l : List Rule} {x : Rule} {w : World} (hv : View Rule.cs 8 w s l) : Brings (Xcall Try.prog (Value.func (Fn.func 41) #[] #[]) #[s, x.v] w)
    (fun r => ∃ n : Int, r.1 = .int .i64 n ∧ decide (0 ≤ n) = decide (x ∈ l) ∧ Bel w r.2) := by
  refine e41 ?_
  unfold s41
  have A := x.new w
  have hb : Bel w (w.alloc (.cells x.cs.toArray 26)) := (Bel.refl w).alloc _
  rw [x.box]
  simp only [go_sem, hv.len und33]
  generalize w.alloc (.cells x.cs.toArray 26) = w1 at A hb
  generalize w.heap.size = a at A
  have hsm := hv.small
  simp only [maxLen] at hsm
  refine Brings.loop (fun m xs w' => ∃ i : Nat, xs = [s, .pointer (some ⟨a, 0, none⟩), .int .i64 0, .int .i64 l.length, .int .i64 i] ∧ i ≤ l.length ∧ m = l.length - i ∧ Bel w1 w' ∧ ∀ j y, j < i → l[j]? = some y → y ≠ x) ?_ l.length _ _ ⟨0, rfl, by omega, by omega, Bel.refl _, fun j y h => by omega⟩
  rintro m xs w' ⟨i, rfl, hi, hm, hb', hne⟩
  simp only [s41B0, go_sem]
  refine .cond (fun hlt => ?_) (fun hlt => ?_)
  · have hlt : (i : Int) < l.length := by simpa using hlt
    have bd : Bel w1 w'.drew := hb'.drew
    obtain ⟨y, g, o, hy, _, hix, hc⟩ := getR (hv.bel (hb.trans bd)) (n := i) (by omega) hlt
    simp only [Int.toNat_natCast] at hy
    simp only [Rule.all (A.bel bd), hix, Rule.all hc, Rule.eql, go_sem]
    refine .cond (fun he => ?_) (fun he => ?_)
    · have he : x = y := by simpa using he
      subst he
      refine .ret (.inr ⟨by simp, .ret ⟨i, rfl, ?_, hb.trans bd⟩⟩)
      have : x ∈ l := List.mem_of_getElem? hy
      simp [this]
    · have he : ¬ x = y := by simpa using he
      refine .ret (.inl ⟨rfl, l.length - (i + 1), by omega, i + 1, by rw [wrap_i64 (by omega) (by omega)]; rfl, by omega, rfl, bd, fun j z hj hz => ?_⟩)
      by_cases e : j = i
      · subst e
        rw [hy] at hz; injection hz with hz
        subst hz
        exact fun h => he h.symm
      · exact hne j z (by omega) hz
  · have hlt : ¬ (i : Int) < l.length := by simpa using hlt
    refine .ret (.inr ⟨by simp, .ret ⟨-1, rfl, ?_, hb.trans hb'⟩⟩)
    have : x ∉ l := fun hx => by
      obtain ⟨j, hj, e⟩ := List.mem_iff_getElem.1 hx
      exact hne j x (by omega) (by rw [List.getElem?_eq_getElem hj, e]) rfl
    simp [this]

theorem k26 {s : Value} {l : List Rule} {x : Rule} {w : World} (hv : View Rule.cs 8 w s l) : Brings (Xcall Try.prog (Value.func (Fn.func 26) #[] #[]) #[s, x.v] w) (fun r => r.1 = .bool (decide (x ∈ l)) ∧ Bel w r.2) := by
  refine e26 ?_
  unfold s26
  have A := x.new w
  have hb : Bel w (w.alloc (.cells x.cs.toArray 26)) := (Bel.refl w).alloc _
  rw [x.box]
  simp only [go_sem]
  generalize w.alloc (.cells x.cs.toArray 26) = w1 at A hb
  generalize w.heap.size = a at A
  simp only [Rule.all A, go_sem]
  refine (k41 (hv.bel hb)).bind ?_
  rintro ⟨_, w2⟩ ⟨n, h1, h2, b2⟩
  simp only at h1 b2
  subst h1
  simp only [go_sem, h2]
  exact .ret ⟨rfl, hb.trans b2⟩

/-! ## An object -/

/-- An object of rules: a variable that holds a slice of its own. -/
structure Obj (tt : TypeId) (w : World) (a : Nat) (sl : Value) (l : List Rule) : Prop where
  var : w.heap[a]? = some (.cells #[sl] tt (0, 0))
  owns : w.ownsRow 0 26 8 sl l.length (l.flatMap Rule.cs)
  apart : sl.ownBlock ≠ some a
  oks : ∀ x ∈ l, x.ok
  right : ∀ x ∈ l, rightM x = true
  most : l.length ≤ 32

/-- The blocks of an object. -/
def Foot (a : Nat) (sl : Value) (k : Nat) : Prop := k = a ∨ sl.ownBlock = some k

theorem Obj.keep {tt : TypeId} {w w' : World} {a : Nat} {sl : Value} {l : List Rule} {S : Nat → Prop} (h : Obj tt w a sl l) (hc : Chg S w w') (hs : ∀ k, Foot a sl k → ¬ S k) : Obj tt w' a sl l :=
  ⟨hc.at_ h.var (hs a (.inl rfl)), hc.owns h.owns fun k hk => hs k (.inr hk), h.apart, h.oks, h.right, h.most⟩
theorem Obj.bel {tt : TypeId} {w w' : World} {a : Nat} {sl : Value} {l : List Rule} (h : Obj tt w a sl l) (hb : Bel w w') : Obj tt w' a sl l := h.keep (.of_bel hb fun _ => False) fun _ _ f => f
theorem Obj.view {tt : TypeId} {w : World} {a : Nat} {sl : Value} {l : List Rule} (h : Obj tt w a sl l) : View Rule.cs 8 w sl l := View.of_owns h.owns (Rule.lens l)
theorem Obj.lt {tt : TypeId} {w : World} {a : Nat} {sl : Value} {l : List Rule} (h : Obj tt w a sl l) : ∀ k, Foot a sl k → k < w.heap.size := by
  rintro k (rfl | hk)
  · exact (Array.getElem?_eq_some_iff.1 h.var).1
  · exact (h.owns.lt k hk).2
theorem Obj.cells {tt : TypeId} {w : World} {a : Nat} {sl : Value} {l : List Rule} (h : Obj tt w a sl l) : w.cell? ⟨a, 0, none⟩ = some sl := cell_at h.var rfl

/-- What Add does. -/
def addM (l : List Rule) (x : Rule) : Int × List Rule :=
  if rightM x = false then (4, l) else if x ∈ l then (10, l) else if 32 ≤ l.length then (9, l) else (0, l ++ [x])

end Go.Proofs.Ytiioaklogbjhhaa
