/- The rules of a kind, one by one. -/
import Derived.Test.YtiioaklogbjhhaaFh
import Derived.Test.YtiioaklogbjhhaaRu10
namespace Go.Proofs.Ytiioaklogbjhhaa
open Go Go.Ev
open Go.Proofs

theorem one27 : one Try.prog 27 = true := by kernel_rfl

/-- What a loop over the rules of a kind goes over. -/
theorem k32 {w : World} {x : Option Addr} {k : Int} : Brings (Xcall Try.prog (Value.func (Fn.func 32) #[] #[]) #[.pointer x, .int .i64 k] w)
    (fun r => ∃ p q, r.1 = .func (.func 42) #[] #[.pointer (some ⟨p, 0, none⟩), .pointer (some ⟨q, 0, none⟩)] ∧ Bel w r.2 ∧ r.2.cell? ⟨p, 0, none⟩ = some (.pointer x) ∧ r.2.cell? ⟨q, 0, none⟩ = some (.int .i64 k)) := by
  refine e32 ?_
  unfold s32
  rw [Xbox_eq]
  simp only [go_sem]
  refine .ret ⟨w.heap.size, w.heap.size + 1, ?_, ((Bel.refl w).alloc _).alloc _, ?_, ?_⟩
  · simp only [World.size_alloc]
  · exact Bel.cell_some ((Bel.refl _).alloc _) (cell_at (MapKept.heap_alloc w _).1 rfl)
  · have := (MapKept.heap_alloc (w.alloc (.cells #[.pointer x] 27)) (.cells #[.int .i64 k] 22)).1
    rw [World.size_alloc] at this
    exact cell_at this rfl

theorem k42n {w : World} {y q : Value} {p : Nat} (hp : w.cell? ⟨p, 0, none⟩ = some (.pointer none)) : Brings (Xcall Try.prog (Value.func (Fn.func 42) #[] #[.pointer (some ⟨p, 0, none⟩), q]) #[y] w) (fun r => r = (.tuple #[], w)) := by
  refine e42 ?_
  unfold s42
  simp only [Qload_cell one27 hp, Qb_eqlP (P := Try.prog) (t := 27) (e := 60) (by kernel_rfl), Option.isNone_none, go_sem]
  exact .ret rfl

theorem k42 {w : World} {y : Value} {p q a : Nat} {sl : Value} {l : List Rule} {k : Int} (J : Nat → World → Prop) (D : World → Prop)
    (hp : w.cell? ⟨p, 0, none⟩ = some (.pointer (some ⟨a, 0, none⟩))) (ha : w.cell? ⟨a, 0, none⟩ = some sl)
    (hJ : ∀ i w', J i w' → View Rule.cs 8 w' sl l ∧ w'.cell? ⟨q, 0, none⟩ = some (.int .i64 k))
    (hb : ∀ i w' w'', J i w' → Bel w' w'' → J i w'')
    (hy : ∀ i x w', J i w' → l[i]? = some x → x.kind = k → Brings (Xcall Try.prog y #[x.v] w') fun r => (r.1 = .bool true ∧ J (i + 1) r.2) ∨ (r.1 = .bool false ∧ D r.2))
    (hn : ∀ i x w', J i w' → l[i]? = some x → x.kind ≠ k → J (i + 1) w') (h0 : J 0 w) :
    Brings (Xcall Try.prog (Value.func (Fn.func 42) #[] #[.pointer (some ⟨p, 0, none⟩), .pointer (some ⟨q, 0, none⟩)]) #[y] w) (fun r => r.1 = .tuple #[] ∧ (J l.length r.2 ∨ D r.2)) := by
  refine e42 ?_
  unfold s42
  have hv := (hJ 0 w h0).1
  have h63 := hv.small
  simp only [maxLen] at h63
  simp only [Qload_cell one27 hp, Qb_eqlP (P := Try.prog) (t := 27) (e := 60) (by kernel_rfl), Option.isNone_some, go_sem, Qload_cell one33 ha, hv.len und33]
  refine Brings.loop (fun n xs w' => ∃ i : Nat, xs = [y, .pointer (some ⟨q, 0, none⟩), sl, .int .i64 l.length, .int .i64 i] ∧ i ≤ l.length ∧ n = l.length - i ∧ J i w') ?_ l.length _ _ ⟨0, rfl, by omega, by omega, h0⟩
  rintro n xs w' ⟨i, rfl, hi, hm, hj⟩
  simp only [s42B0, go_sem]
  refine .cond (fun hlt => ?_) (fun hlt => ?_)
  · have hlt : (i : Int) < l.length := by simpa using hlt
    obtain ⟨x, g, o, hx, _, hix, hc⟩ := getR (hJ i w' hj).1 (n := i) (by omega) hlt
    simp only [Int.toNat_natCast] at hx
    have B := local_bel w' (.cells Rule.zero.cs.toArray 26) x.cs.toArray
    have A := local_at w' x.cs Rule.zero.cs 26
    have j2 := hb i _ _ hj B
    have hq := (hJ i _ j2).2
    simp only [hix, Rule.all hc, alloc26, put26, go_sem, Rule.b0 A, Qload_cell one22 hq]
    cases he : (x.kind == k) with
    | false =>
      simp only [go_sem, Bool.false_eq_true, if_false]
      refine .ret (.inl ⟨rfl, l.length - (i + 1), by omega, i + 1, by rw [wrap_i64 (by omega) (by omega)]; rfl, by omega, rfl, hn i x _ j2 hx (by simpa using he)⟩)
    | true =>
      simp only [go_sem, Rule.all A]
      refine (hy i x _ j2 hx (by simpa using he)).bind ?_
      rintro ⟨_, w3⟩ (⟨h1, h2⟩ | ⟨h1, h2⟩) <;> simp only at h1 h2 <;> subst h1
      · simp only [go_sem, Bool.not_true]
        refine .ret (.inl ⟨rfl, l.length - (i + 1), by omega, i + 1, by rw [wrap_i64 (by omega) (by omega)]; rfl, by omega, rfl, h2⟩)
      · simp only [go_sem, Bool.not_false]
        exact .ret (.inr ⟨by simp, .ret ⟨rfl, .inr h2⟩⟩)
  · have hlt : ¬ (i : Int) < l.length := by simpa using hlt
    have : i = l.length := by omega
    subst this
    exact .ret (.inr ⟨by simp, .ret ⟨rfl, .inl hj⟩⟩)

end Go.Proofs.Ytiioaklogbjhhaa
