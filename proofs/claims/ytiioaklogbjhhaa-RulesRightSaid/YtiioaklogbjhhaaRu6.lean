/- Clone, List, Fork. -/
import Derived.Test.YtiioaklogbjhhaaRu5
namespace Go.Proofs.Ytiioaklogbjhhaa
open Go Go.Ev
open Go.Proofs

theorem lit0 (w : World) : XbuildSlice Try.prog 33 0 #[] w = some (.slice (some ⟨w.heap.size, 0, none⟩) 0 0, w.alloc (.cells #[] 26)) := by kernel_rfl
theorem own0 (w : World) : (w.alloc (.cells #[] 26)).ownsRow 0 26 8 (.slice (some ⟨w.heap.size, 0, none⟩) 0 0) ([] : List Rule).length (([] : List Rule).flatMap Rule.cs) :=
  ⟨rfl, .inr ⟨w.heap.size, 0, #[], rfl, Nat.zero_le _, (MapKept.heap_alloc w _).1, Nat.le_refl _, Nat.zero_le _, rfl, rfl⟩⟩

/-- A new slice of the same. -/
def Fresh (w : World) (l : List Rule) (r : Value × World) : Prop :=
  Bel w r.2 ∧ r.2.ownsRow 0 26 8 r.1 l.length (l.flatMap Rule.cs) ∧ ∀ k, r.1.ownBlock = some k → w.heap.size ≤ k

/-- append([]T{}, s...) -/
theorem copy33 {w : World} {s : Value} {l : List Rule} (hv : View Rule.cs 8 w s l) (hm : l.length ≤ 1000) :
    ∃ v' w', Xbi Try.prog .append #[33, 33] 33 #[.slice (some ⟨w.heap.size, 0, none⟩) 0 0, s] (w.alloc (.cells #[] 26)) = some (v', w') ∧ Fresh w l (v', w') := by
  have hb : Bel w (w.alloc (.cells #[] 26)) := (Bel.refl w).alloc _
  obtain ⟨v', w', e, ho, hg, hk⟩ := app33 (own0 w) (hv.bel hb) (by simp; omega)
  refine ⟨v', w', e, (hb.thenChg (Chg.of_grown hg)).bel fun k hk h => ?_, by simpa using ho, fun k hk' => ?_⟩
  · simp only [Value.ownBlock, Option.some.injEq] at h; omega
  · rcases hk k hk' with h | h
    · simp only [Value.ownBlock, Option.some.injEq] at h; omega
    · simp at h; omega

theorem k29 {w : World} {s : Value} {l : List Rule} (hv : View Rule.cs 8 w s l) (hm : l.length ≤ 1000) : Brings (Xcall Try.prog (Value.func (Fn.func 29) #[] #[]) #[s] w) (Fresh w l) := by
  refine e29 ?_
  unfold s29
  have hv' := hv
  obtain ⟨x, cap, rfl, hc1, hc2, hnil, hel⟩ := hv
  rw [Qb_eqlL (P := Try.prog) und33]
  simp only [go_sem]
  cases x with
  | none =>
    simp only [Option.isNone_none, go_sem]
    have : l = [] := List.length_eq_zero_iff.1 (by have := hnil rfl; omega)
    subst this
    exact .ret ⟨Bel.refl _, World.ownsRow_nil w 0 26 8, fun k hk => by cases hk⟩
  | some a =>
    simp only [Option.isNone_some, go_sem, lit0]
    obtain ⟨v', w', e, hf⟩ := copy33 hv' hm
    rw [e]
    simp only [go_sem]
    exact .ret hf

theorem k16 {w : World} {a : Nat} {sl : Value} {l : List Rule} (h : Obj 60 w a sl l) : Brings (Xcall Try.prog (Value.func (Fn.func 16) #[] #[]) #[.pointer (some ⟨a, 0, none⟩)] w) (Fresh w l) := by
  refine e16 ?_
  unfold s16
  have hm := h.most
  simp only [go_sem, Qb_eqlP (P := Try.prog) (t := 27) (e := 60) (by kernel_rfl), Option.isNone_some, h.ptr (Bel.refl _)]
  refine (k29 h.view (by omega)).bind ?_
  rintro ⟨v, w'⟩ hf
  exact .ret hf
theorem k38 {w : World} {a : Nat} {sl : Value} {l : List Rule} (h : Obj 71 w a sl l) : Brings (Xcall Try.prog (Value.func (Fn.func 38) #[] #[]) #[.pointer (some ⟨a, 0, none⟩)] w) (Fresh w l) := by
  refine e38 ?_
  unfold s38
  have hm := h.most
  simp only [go_sem, Qb_eqlP (P := Try.prog) (t := 38) (e := 71) (by kernel_rfl), Option.isNone_some, lit0, h.ptr ((Bel.refl w).alloc _)]
  obtain ⟨v', w', e, hf⟩ := copy33 h.view (by omega)
  rw [e]
  simp only [go_sem]
  exact .ret hf

theorem build60 (x : Option Addr) (n c : Nat) (w : World) : Qbuild Try.prog 60 #[(0, .slice x n c)] w = some (.agg #[.slice x n c]) := by kernel_rfl
theorem build71 (x : Option Addr) (n c : Nat) (w : World) : Qbuild Try.prog 71 #[(0, .slice x n c)] w = some (.agg #[.slice x n c]) := by kernel_rfl

/-- A new object of a slice. -/
theorem newObj60 {w : World} {l : List Rule} {r : Value × World} (hf : Fresh w l r) (ho : ∀ x ∈ l, x.ok) (hr : ∀ x ∈ l, rightM x = true) (hm : l.length ≤ 32) (tt : TypeId) :
    Obj tt (r.2.alloc (.cells #[r.1] tt)) r.2.heap.size r.1 l := by
  have b : Bel r.2 (r.2.alloc (.cells #[r.1] tt)) := (Bel.refl _).alloc _
  exact ⟨(MapKept.heap_alloc r.2 _).1, (Chg.of_bel b fun _ => False).owns hf.2.1 fun _ _ f => f, fun e => by have := (hf.2.1.lt _ e).2; omega, ho, hr, hm⟩

theorem k23 {w : World} {a : Nat} {sl : Value} {l : List Rule} (h : Obj 60 w a sl l) : Brings (Xcall Try.prog (Value.func (Fn.func 23) #[] #[]) #[.pointer (some ⟨a, 0, none⟩)] w)
    (fun r => ∃ b sm, r.1 = .pointer (some ⟨b, 0, none⟩) ∧ Bel w r.2 ∧ Obj 60 r.2 b sm l ∧ ∀ k, Foot b sm k → w.heap.size ≤ k) := by
  refine e23 ?_
  unfold s23
  have hm := h.most
  simp only [go_sem, Qb_eqlP (P := Try.prog) (t := 27) (e := 60) (by kernel_rfl), Option.isNone_some, h.ptr (Bel.refl _)]
  refine (k29 h.view (by omega)).bind ?_
  rintro ⟨v, w'⟩ hf
  simp only
  obtain ⟨x, n, c, rfl⟩ := owns_slice hf.2.1
  simp only [build60, go_sem]
  refine .ret ⟨w'.heap.size, _, rfl, hf.1.alloc _, newObj60 hf h.oks h.right h.most 60, ?_⟩
  rintro k (rfl | hk)
  · exact hf.1.size
  · exact hf.2.2 k hk
theorem k24 {w : World} {a : Nat} {sl : Value} {l : List Rule} (h : Obj 71 w a sl l) : Brings (Xcall Try.prog (Value.func (Fn.func 24) #[] #[]) #[.pointer (some ⟨a, 0, none⟩)] w)
    (fun r => ∃ b sm, r.1 = .pointer (some ⟨b, 0, none⟩) ∧ Bel w r.2 ∧ Obj 71 r.2 b sm l ∧ ∀ k, Foot b sm k → w.heap.size ≤ k) := by
  refine e24 ?_
  unfold s24
  have hm := h.most
  simp only [go_sem, Qb_eqlP (P := Try.prog) (t := 38) (e := 71) (by kernel_rfl), Option.isNone_some, lit0, h.ptr ((Bel.refl w).alloc _)]
  obtain ⟨v', w', e, hf⟩ := copy33 h.view (by omega)
  rw [e]
  obtain ⟨x, n, c, rfl⟩ := owns_slice hf.2.1
  simp only [build71, go_sem]
  refine .ret ⟨w'.heap.size, _, rfl, hf.1.alloc _, newObj60 hf h.oks h.right h.most 71, ?_⟩
  rintro k (rfl | hk)
  · exact hf.1.size
  · exact hf.2.2 k hk

end Go.Proofs.Ytiioaklogbjhhaa
