/- New; slices compared. -/
import Derived.Test.YtiioaklogbjhhaaRu6
namespace Go.Proofs.Ytiioaklogbjhhaa
open Go Go.Ev
open Go.Proofs

theorem build60n (w : World) : Qbuild Try.prog 60 #[] w = some (.agg #[.slice none 0 0]) := by kernel_rfl
theorem build71n (w : World) : Qbuild Try.prog 71 #[] w = some (.agg #[.slice none 0 0]) := by kernel_rfl
theorem fresh0 (w : World) : Fresh w [] (.slice none 0 0, w) := ⟨Bel.refl _, World.ownsRow_nil w 0 26 8, fun k hk => by cases hk⟩

/-- A new object. -/
def Newly (tt : TypeId) (w : World) (l : List Rule) (r : Value × World) : Prop :=
  ∃ b sm, r.1 = .pointer (some ⟨b, 0, none⟩) ∧ Bel w r.2 ∧ Obj tt r.2 b sm l ∧ ∀ k, Foot b sm k → w.heap.size ≤ k

theorem k11 {w : World} : Brings (Xcall Try.prog (Value.func (Fn.func 11) #[] #[]) #[] w) (Newly 60 w []) := by
  refine e11 ?_
  unfold s11
  simp only [build60n, go_sem]
  refine .ret ⟨w.heap.size, _, rfl, (Bel.refl w).alloc _, newObj60 (fresh0 w) (by simp) (by simp) (by simp) 60, ?_⟩
  rintro k (rfl | hk)
  · exact Nat.le_refl _
  · cases hk
theorem k30 {w : World} : Brings (Xcall Try.prog (Value.func (Fn.func 30) #[] #[]) #[] w) (Newly 71 w []) := by
  refine e30 ?_
  unfold s30
  simp only [build71n, go_sem]
  refine .ret ⟨w.heap.size, _, rfl, (Bel.refl w).alloc _, newObj60 (fresh0 w) (by simp) (by simp) (by simp) 71, ?_⟩
  rintro k (rfl | hk)
  · exact Nat.le_refl _
  · cases hk

theorem k21 {w : World} {s t : Value} {l m : List Rule} (hs : View Rule.cs 8 w s l) (ht : View Rule.cs 8 w t m) : Brings (Xcall Try.prog (Value.func (Fn.func 21) #[] #[]) #[s, t] w) (fun r => r.1 = .bool (decide (l = m)) ∧ Bel w r.2) := by
  refine e21 ?_
  unfold s21
  simp only [hs.len und33, ht.len und33, go_sem]
  have h63 := hs.small
  simp only [maxLen] at h63
  refine .cond (fun hne => ?_) (fun heq => ?_)
  · have : l ≠ m := fun e => by subst e; simp at hne
    simp only [this, decide_false]
    exact .ret ⟨rfl, Bel.refl _⟩
  have heq : l.length = m.length := by
    have : (l.length : Int) = m.length := by simpa using heq
    omega
  refine Brings.loop (fun n xs w' => ∃ i : Nat, xs = [s, t, .bool false, .int .i64 i] ∧ i ≤ l.length ∧ n = l.length - i ∧ Bel w w' ∧ l.take i = m.take i) ?_ l.length _ _ ⟨0, rfl, by omega, by omega, Bel.refl _, by simp⟩
  rintro n xs w' ⟨i, rfl, hi, hn, hb, htk⟩
  simp only [s21B0, hs.len und33, go_sem]
  refine .cond (fun hlt => ?_) (fun hlt => ?_)
  · have hlt : (i : Int) < l.length := by simpa using hlt
    have bd : Bel w w'.drew := hb.drew
    obtain ⟨y, g, o, hy, _, hix, hc⟩ := getR (hs.bel bd) (n := i) (by omega) hlt
    obtain ⟨z, g', o', hz, _, hix', hc'⟩ := getR (ht.bel bd) (n := i) (by omega) (by omega)
    simp only [Int.toNat_natCast] at hy hz
    simp only [hix, hix', Rule.all hc, Rule.all hc', Rule.neq, go_sem]
    refine .cond (fun he => ?_) (fun he => ?_)
    · have he : y ≠ z := by simpa using he
      have : l ≠ m := fun e => by subst e; rw [hy] at hz; injection hz with hz; exact he hz
      simp only [this, decide_false]
      exact .ret (.inr ⟨by simp, .ret ⟨rfl, bd⟩⟩)
    · have he : y = z := by simpa using he
      subst he
      refine .ret (.inl ⟨rfl, l.length - (i + 1), by omega, i + 1, by rw [wrap_i64 (by omega) (by omega)]; rfl, by omega, rfl, bd, ?_⟩)
      rw [List.take_add_one, List.take_add_one, htk, hy, hz]
  · have hlt : ¬ (i : Int) < l.length := by simpa using hlt
    have : i = l.length := by omega
    subst this
    have : l = m := by
      rw [List.take_length, heq, List.take_length] at htk
      exact htk
    simp only [this, decide_true]
    exact .ret (.inr ⟨by simp, .ret ⟨rfl, hb⟩⟩)

end Go.Proofs.Ytiioaklogbjhhaa
