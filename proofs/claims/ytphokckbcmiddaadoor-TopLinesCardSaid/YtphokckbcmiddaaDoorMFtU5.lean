/- The parts of a stream, from the last one on. -/
import Derived.Test.YtphokckbcmiddaaDoorMFb
import Derived.Test.YtphokckbcmiddaaDoorMFtU4
namespace Go.Proofs.YtphokckbcmiddaaDoor.Sq
open Go Go.Ev Go.RowKit
open Go.Proofs

set_option maxRecDepth 100000 in
theorem one47 : one Tryd.prog 47 = true := by kernel_rfl
set_option maxRecDepth 100000 in
theorem one106 : one Tryd.prog 106 = true := by kernel_rfl
set_option maxRecDepth 100000 in
theorem ptr24 : Tryd.prog.underlying 47 = some (.pointer 82) := by kernel_rfl
set_option maxRecDepth 100000 in
theorem k52 {w : World} {sl : Value} (hs : ∃ x n c, sl = .slice x n c) : Brings (Xcall Tryd.prog (Value.func (Fn.func 52) #[] #[]) #[sl] w) (fun r => r = (.func (.func 67) #[] #[.pointer (some ⟨w.heap.size, 0, none⟩)], w.alloc (.cells #[sl] 80))) := by
  refine e52 ?_
  unfold s52
  obtain ⟨x, n, c, rfl⟩ := hs
  rw [Xbox_eq]
  simp only [go_sem]
  exact .ret rfl

set_option maxRecDepth 100000 in
theorem k38 {w : World} {x : Option Addr} : Brings (Xcall Tryd.prog (Value.func (Fn.func 38) #[] #[]) #[.pointer x] w) (fun r => r = (.func (.func 51) #[] #[.pointer (some ⟨w.heap.size, 0, none⟩)], w.alloc (.cells #[.pointer x] 47))) := by
  refine e38 ?_
  unfold s38
  rw [Xbox_eq]
  simp only [go_sem]
  exact .ret rfl

set_option maxRecDepth 100000 in
theorem k67 {w : World} {y : Value} {q : Nat} {sl : Value} {l : List Pt} (J : Nat → World → Prop) (D : World → Prop)
    (hJ : ∀ i w', J i w' → View Pt.cs 5 w' sl l ∧ w'.cell? ⟨q, 0, none⟩ = some sl)
    (hy : ∀ i x w', J i w' → i < l.length → l[l.length - 1 - i]? = some x → Brings (Xcall Tryd.prog y #[.int .i64 (l.length - 1 - i : Nat), x.v] w') fun r => (r.1 = .bool true ∧ J (i + 1) r.2) ∨ (r.1 = .bool false ∧ D r.2))
    (h0 : J 0 w) : Brings (Xcall Tryd.prog (Value.func (Fn.func 67) #[] #[.pointer (some ⟨q, 0, none⟩)]) #[y] w) (fun r => r.1 = .tuple #[] ∧ (J l.length r.2 ∨ D r.2)) := by
  refine e67 ?_
  unfold s67
  have hv := (hJ 0 w h0).1
  have h63 := hv.small
  simp only [maxLen] at h63
  simp only [Qload_cell one80 (hJ 0 w h0).2, hv.len Pt.und80, go_sem]
  rw [wrap_i64 (by omega) (by omega)]
  refine Brings.loop (fun n xs w' => ∃ i : Nat, xs = [y, .pointer (some ⟨q, 0, none⟩), .int .i64 ((l.length : Int) - 1 - i)] ∧ i ≤ l.length ∧ n = l.length - i ∧ J i w') ?_ l.length _ _ ⟨0, by simp, by omega, by omega, h0⟩
  rintro n xs w' ⟨i, rfl, hi, hn, hj⟩
  obtain ⟨hv', hq'⟩ := hJ i w' hj
  simp only [s67B0, go_sem]
  refine .cond (fun hlt => ?_) (fun hlt => ?_)
  · have hlt : (0 : Int) ≤ (l.length : Int) - 1 - i := by simpa using hlt
    obtain ⟨x, g, o, hx, _, hix, hc⟩ := Pt.getR hv' (n := (l.length : Int) - 1 - i) hlt (by omega)
    have e : ((l.length : Int) - 1 - i).toNat = l.length - 1 - i := by omega
    rw [e] at hx
    simp only [Qload_cell one80 hq', hix, Pt.all hc, go_sem]
    have ei : (l.length : Int) - 1 - i = ((l.length - 1 - i : Nat) : Int) := by omega
    rw [ei]
    refine (hy i x w' hj (by omega) hx).bind ?_
    rintro ⟨_, w3⟩ (⟨h1, h2⟩ | ⟨h1, h2⟩) <;> simp only at h1 h2 <;> subst h1
    · simp only [go_sem, Bool.not_true]
      refine .ret (.inl ⟨rfl, l.length - (i + 1), by omega, i + 1, ?_, by omega, rfl, h2⟩)
      rw [wrap_i64 (by omega) (by omega)]
      simp only
      rw [show ((l.length - 1 - i : Nat) : Int) - 1 = (l.length : Int) - 1 - (i + 1 : Nat) by omega]
    · simp only [go_sem, Bool.not_false]
      exact .ret (.inr ⟨by simp, .ret ⟨rfl, .inr h2⟩⟩)
  · have hlt : ¬ (0 : Int) ≤ (l.length : Int) - 1 - i := by simpa using hlt
    have : i = l.length := by omega
    subst this
    exact .ret (.inr ⟨by simp, .ret ⟨rfl, .inl hj⟩⟩)

end Go.Proofs.YtphokckbcmiddaaDoor.Sq
