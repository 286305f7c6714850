/- The library's sort: its partitions. -/
import Derived.Test.YtcibkmahibnjeaaTa18
namespace Go.Proofs.Ytcibkmahibnjeaa
open Go Go.Ev Go.RowKit
open Go.Proofs

theorem out66 {v : Value} {N a b m0 : Nat} {w0 : World} (hN : N ≤ 100000) (hab : a < b) (hb : b ≤ N) : ∀ (i j : Nat) (w : World), a + 1 ≤ i → i ≤ b → a ≤ j → j + 1 ≤ b → j + 1 - i ≤ m0 → Rr v N w0 w → Brings (s66B0 [v, .int .i64 (a : Int), f30V, .int .i64 (i : Int), .int .i64 (j : Int)] w) (fun r => (r.1 = Exit.normal ∧ ∃ m, m < m0 ∧ ∃ i j : Nat, r.2.1 = [v, .int .i64 (a : Int), f30V, .int .i64 (i : Int), .int .i64 (j : Int)] ∧ a + 1 ≤ i ∧ i ≤ b ∧ a ≤ j ∧ j + 1 ≤ b ∧ m = j + 1 - i ∧ Rr v N w0 r.2.2) ∨ (r.1 ≠ Exit.normal ∧ Brings (s66R0 r.1 r.2.1 r.2.2) (fun r => Rr v N w0 r.2 ∧ ∃ m : Nat, r.1 = .int .i64 (m : Int) ∧ a < m ∧ m ≤ b))) := by
  have Jx : ∀ (i j : Nat) (w : World), a + 1 ≤ i → i ≤ b → a ≤ j → j + 1 ≤ b → j + 1 - i ≤ m0 → Rr v N w0 w → Brings (s66R2 (.exit 4) [v, .int .i64 (a : Int), f30V, .int .i64 (i : Int), .int .i64 (j : Int)] w) (fun r => (r.1 = Exit.normal ∧ ∃ m, m < m0 ∧ ∃ i j : Nat, r.2.1 = [v, .int .i64 (a : Int), f30V, .int .i64 (i : Int), .int .i64 (j : Int)] ∧ a + 1 ≤ i ∧ i ≤ b ∧ a ≤ j ∧ j + 1 ≤ b ∧ m = j + 1 - i ∧ Rr v N w0 r.2.2) ∨ (r.1 ≠ Exit.normal ∧ Brings (s66R0 r.1 r.2.1 r.2.2) (fun r => Rr v N w0 r.2 ∧ ∃ m : Nat, r.1 = .int .i64 (m : Int) ∧ a < m ∧ m ≤ b))) := by
    intro i j w h1 h2 h3 h4 hm h
    simp only [s66R2, go_sem]
    refine .cond (fun c => ?_) (fun c => ?_)
    · exact .ret (.inr ⟨by simp, .ret ⟨h, i, rfl, by omega, by omega⟩⟩)
    · have c : i ≤ j := by have := of_decide_eq_false c; omega
      refine h.drew.swap (by omega) (by omega) fun w5 h5 => ?_
      have e1 := wi (x := (i : Int) + 1) (n := i + 1) (by omega) (by omega)
      have e2 := wi (x := (j : Int) - 1) (n := j - 1) (by omega) (by omega)
      simp only [e1, e2, go_sem]
      exact .ret (.inl ⟨rfl, _, by omega, i + 1, j - 1, rfl, by omega, by omega, by omega, by omega, rfl, h5⟩)
  have J : ∀ (i j : Nat) (w : World), a + 1 ≤ i → i ≤ b → a ≤ j → j + 1 ≤ b → j + 1 - i ≤ m0 → Rr v N w0 w → Brings (loopR s66B2 s66R2 [v, .int .i64 (a : Int), f30V, .int .i64 (i : Int), .int .i64 (j : Int)] w) (fun r => (r.1 = Exit.normal ∧ ∃ m, m < m0 ∧ ∃ i j : Nat, r.2.1 = [v, .int .i64 (a : Int), f30V, .int .i64 (i : Int), .int .i64 (j : Int)] ∧ a + 1 ≤ i ∧ i ≤ b ∧ a ≤ j ∧ j + 1 ≤ b ∧ m = j + 1 - i ∧ Rr v N w0 r.2.2) ∨ (r.1 ≠ Exit.normal ∧ Brings (s66R0 r.1 r.2.1 r.2.2) (fun r => Rr v N w0 r.2 ∧ ∃ m : Nat, r.1 = .int .i64 (m : Int) ∧ a < m ∧ m ≤ b))) := by
    intro i j w h1 h2 h3 h4 hm h
    refine Brings.loop (fun m xs w' => ∃ i j : Nat, xs = [v, .int .i64 (a : Int), f30V, .int .i64 (i : Int), .int .i64 (j : Int)] ∧ a + 1 ≤ i ∧ i ≤ b ∧ a ≤ j ∧ j + 1 ≤ b ∧ m = j + 1 - i ∧ m ≤ m0 ∧ Rr v N w0 w') ?_ (j + 1 - i) _ _ ⟨i, j, rfl, h1, h2, h3, h4, rfl, hm, h⟩
    rintro m xs w' ⟨i, j, rfl, h1, h2, h3, h4, rfl, hm, h⟩
    simp only [s66B2, go_sem]
    by_cases c : i ≤ j
    · have d : decide ((i : Int) ≤ (j : Int)) = true := by rw [decide_eq_true_iff]; omega
      simp only [d, go_sem]
      refine h.drew.less (i := a) (j := j) (by omega) (by omega) fun o w2 _ h5 => ?_
      have e1 := wi (x := (i : Int) + 1) (n := i + 1) (by omega) (by omega)
      have e2 := wi (x := (j : Int) - 1) (n := j - 1) (by omega) (by omega)
      simp only [e1, e2, go_sem]
      refine .cond (fun _ => ?_) (fun _ => ?_)
      · exact .ret (.inl ⟨rfl, _, by omega, i, j - 1, rfl, by omega, by omega, by omega, by omega, rfl, by omega, h5⟩)
      · exact .ret (.inr ⟨by simp, Jx i j w2 h1 h2 h3 h4 hm h5⟩)
    · have d : decide ((i : Int) ≤ (j : Int)) = false := by rw [decide_eq_false_iff_not]; omega
      simp only [d, go_sem]
      exact .ret (.inr ⟨by simp, Jx i j _ h1 h2 h3 h4 hm h.drew⟩)
  have Ix : ∀ (i j : Nat) (w : World), a + 1 ≤ i → i ≤ b → a ≤ j → j + 1 ≤ b → j + 1 - i ≤ m0 → Rr v N w0 w → Brings (s66R1 (.exit 2) [v, .int .i64 (a : Int), f30V, .int .i64 (i : Int), .int .i64 (j : Int)] w) (fun r => (r.1 = Exit.normal ∧ ∃ m, m < m0 ∧ ∃ i j : Nat, r.2.1 = [v, .int .i64 (a : Int), f30V, .int .i64 (i : Int), .int .i64 (j : Int)] ∧ a + 1 ≤ i ∧ i ≤ b ∧ a ≤ j ∧ j + 1 ≤ b ∧ m = j + 1 - i ∧ Rr v N w0 r.2.2) ∨ (r.1 ≠ Exit.normal ∧ Brings (s66R0 r.1 r.2.1 r.2.2) (fun r => Rr v N w0 r.2 ∧ ∃ m : Nat, r.1 = .int .i64 (m : Int) ∧ a < m ∧ m ≤ b))) := by
    intro i j w h1 h2 h3 h4 hm h
    simp only [s66R1, go_sem]
    exact J i j w h1 h2 h3 h4 hm h
  have I : ∀ (i j : Nat) (w : World), a + 1 ≤ i → i ≤ b → a ≤ j → j + 1 ≤ b → j + 1 - i ≤ m0 → Rr v N w0 w → Brings (loopR s66B1 s66R1 [v, .int .i64 (a : Int), f30V, .int .i64 (i : Int), .int .i64 (j : Int)] w) (fun r => (r.1 = Exit.normal ∧ ∃ m, m < m0 ∧ ∃ i j : Nat, r.2.1 = [v, .int .i64 (a : Int), f30V, .int .i64 (i : Int), .int .i64 (j : Int)] ∧ a + 1 ≤ i ∧ i ≤ b ∧ a ≤ j ∧ j + 1 ≤ b ∧ m = j + 1 - i ∧ Rr v N w0 r.2.2) ∨ (r.1 ≠ Exit.normal ∧ Brings (s66R0 r.1 r.2.1 r.2.2) (fun r => Rr v N w0 r.2 ∧ ∃ m : Nat, r.1 = .int .i64 (m : Int) ∧ a < m ∧ m ≤ b))) := by
    intro i j w h1 h2 h3 h4 hm h
    refine Brings.loop (fun m xs w' => ∃ i j : Nat, xs = [v, .int .i64 (a : Int), f30V, .int .i64 (i : Int), .int .i64 (j : Int)] ∧ a + 1 ≤ i ∧ i ≤ b ∧ a ≤ j ∧ j + 1 ≤ b ∧ m = j + 1 - i ∧ m ≤ m0 ∧ Rr v N w0 w') ?_ (j + 1 - i) _ _ ⟨i, j, rfl, h1, h2, h3, h4, rfl, hm, h⟩
    rintro m xs w' ⟨i, j, rfl, h1, h2, h3, h4, rfl, hm, h⟩
    simp only [s66B1, go_sem]
    by_cases c : i ≤ j
    · have d : decide ((i : Int) ≤ (j : Int)) = true := by rw [decide_eq_true_iff]; omega
      simp only [d, go_sem]
      refine h.drew.less (i := a) (j := i) (by omega) (by omega) fun o w2 _ h5 => ?_
      have e1 := wi (x := (i : Int) + 1) (n := i + 1) (by omega) (by omega)
      have e2 := wi (x := (j : Int) - 1) (n := j - 1) (by omega) (by omega)
      simp only [e1, e2, go_sem]
      refine .cond (fun _ => ?_) (fun _ => ?_)
      · exact .ret (.inl ⟨rfl, _, by omega, i + 1, j, rfl, by omega, by omega, by omega, by omega, rfl, by omega, h5⟩)
      · exact .ret (.inr ⟨by simp, Ix i j w2 h1 h2 h3 h4 hm h5⟩)
    · have d : decide ((i : Int) ≤ (j : Int)) = false := by rw [decide_eq_false_iff_not]; omega
      simp only [d, go_sem]
      exact .ret (.inr ⟨by simp, Ix i j _ h1 h2 h3 h4 hm h.drew⟩)
  intro i j w h1 h2 h3 h4 hm h
  simp only [s66B0, go_sem]
  exact I i j w h1 h2 h3 h4 hm h

theorem k66 {v : Value} {N a b p : Nat} {w0 w : World} (h : Rr v N w0 w) (hN : N ≤ 100000) (hab : a + 1 < b) (hb : b ≤ N) (hp : a ≤ p) (hp2 : p < b) :
    Brings (Xcall Try.prog (Value.func (Fn.func 66) #[] #[]) #[v, .int .i64 (a : Int), .int .i64 (b : Int), .int .i64 (p : Int), f30V] w) (fun r => Rr v N w0 r.2 ∧ ∃ m : Nat, r.1 = .int .i64 (m : Int) ∧ a < m ∧ m ≤ b) := by
  refine e66 ?_
  unfold s66
  refine h.drew.swap (by omega) (by omega) fun w5 h5 => ?_
  have e1 := wi (x := (a : Int) + 1) (n := a + 1) (by omega) (by omega)
  have e2 := wi (x := (b : Int) - 1) (n := b - 1) (by omega) (by omega)
  simp only [e1, e2, go_sem]
  refine Brings.loop (fun m xs w' => ∃ i j : Nat, xs = [v, .int .i64 (a : Int), f30V, .int .i64 (i : Int), .int .i64 (j : Int)] ∧ a + 1 ≤ i ∧ i ≤ b ∧ a ≤ j ∧ j + 1 ≤ b ∧ m = j + 1 - i ∧ Rr v N w0 w') ?_ _ _ _ ⟨a + 1, b - 1, rfl, by omega, by omega, by omega, by omega, rfl, h5⟩
  rintro m xs w' ⟨i, j, rfl, h1, h2, h3, h4, rfl, h⟩
  exact out66 hN (by omega) hb i j w' h1 h2 h3 h4 (Nat.le_refl _) h

theorem out67 {v : Value} {N a b m0 : Nat} {w0 : World} (hN : N ≤ 100000) (hab : a < b) (hb : b ≤ N) : ∀ (i j : Nat) (w : World), a + 1 ≤ i → i ≤ b → a ≤ j → j + 1 ≤ b → j + 1 - i ≤ m0 → Rr v N w0 w → Brings (s67B2 [v, .int .i64 (a : Int), f30V, .int .i64 (i : Int), .int .i64 (j : Int)] w) (fun r => (r.1 = Exit.normal ∧ ∃ m, m < m0 ∧ ∃ i j : Nat, r.2.1 = [v, .int .i64 (a : Int), f30V, .int .i64 (i : Int), .int .i64 (j : Int)] ∧ a + 1 ≤ i ∧ i ≤ b ∧ a ≤ j ∧ j + 1 ≤ b ∧ m = j + 1 - i ∧ Rr v N w0 r.2.2) ∨ (r.1 ≠ Exit.normal ∧ Brings (s67R2 r.1 r.2.1 r.2.2) (fun r => Rr v N w0 r.2 ∧ ∃ (m : Nat) (x : Bool), r.1 = .tuple #[.int .i64 (m : Int), .bool x] ∧ a ≤ m ∧ m < b))) := by
  have Jx : ∀ (i j : Nat) (w : World), a + 1 ≤ i → i ≤ b → a ≤ j → j + 1 ≤ b → j + 1 - i ≤ m0 → Rr v N w0 w → Brings (s67R4 (.exit 8) [v, .int .i64 (a : Int), f30V, .int .i64 (i : Int), .int .i64 (j : Int)] w) (fun r => (r.1 = Exit.normal ∧ ∃ m, m < m0 ∧ ∃ i j : Nat, r.2.1 = [v, .int .i64 (a : Int), f30V, .int .i64 (i : Int), .int .i64 (j : Int)] ∧ a + 1 ≤ i ∧ i ≤ b ∧ a ≤ j ∧ j + 1 ≤ b ∧ m = j + 1 - i ∧ Rr v N w0 r.2.2) ∨ (r.1 ≠ Exit.normal ∧ Brings (s67R2 r.1 r.2.1 r.2.2) (fun r => Rr v N w0 r.2 ∧ ∃ (m : Nat) (x : Bool), r.1 = .tuple #[.int .i64 (m : Int), .bool x] ∧ a ≤ m ∧ m < b))) := by
    intro i j w h1 h2 h3 h4 hm h
    simp only [s67R4, go_sem]
    refine .cond (fun c => ?_) (fun c => ?_)
    · exact .ret (.inr ⟨by simp, (by
        simp only [s67R2, go_sem]
        refine h.drew.swap (by omega) (by omega) fun w5 h5 => ?_
        simp only [go_sem]
        exact .ret ⟨h5, j, _, rfl, by omega, by omega⟩)⟩)
    · have c : i ≤ j := by have := of_decide_eq_false c; omega
      refine h.drew.swap (by omega) (by omega) fun w5 h5 => ?_
      have e1 := wi (x := (i : Int) + 1) (n := i + 1) (by omega) (by omega)
      have e2 := wi (x := (j : Int) - 1) (n := j - 1) (by omega) (by omega)
      simp only [e1, e2, go_sem]
      exact .ret (.inl ⟨rfl, _, by omega, i + 1, j - 1, rfl, by omega, by omega, by omega, by omega, rfl, h5⟩)
  have J : ∀ (i j : Nat) (w : World), a + 1 ≤ i → i ≤ b → a ≤ j → j + 1 ≤ b → j + 1 - i ≤ m0 → Rr v N w0 w → Brings (loopR s67B4 s67R4 [v, .int .i64 (a : Int), f30V, .int .i64 (i : Int), .int .i64 (j : Int)] w) (fun r => (r.1 = Exit.normal ∧ ∃ m, m < m0 ∧ ∃ i j : Nat, r.2.1 = [v, .int .i64 (a : Int), f30V, .int .i64 (i : Int), .int .i64 (j : Int)] ∧ a + 1 ≤ i ∧ i ≤ b ∧ a ≤ j ∧ j + 1 ≤ b ∧ m = j + 1 - i ∧ Rr v N w0 r.2.2) ∨ (r.1 ≠ Exit.normal ∧ Brings (s67R2 r.1 r.2.1 r.2.2) (fun r => Rr v N w0 r.2 ∧ ∃ (m : Nat) (x : Bool), r.1 = .tuple #[.int .i64 (m : Int), .bool x] ∧ a ≤ m ∧ m < b))) := by
    intro i j w h1 h2 h3 h4 hm h
    refine Brings.loop (fun m xs w' => ∃ i j : Nat, xs = [v, .int .i64 (a : Int), f30V, .int .i64 (i : Int), .int .i64 (j : Int)] ∧ a + 1 ≤ i ∧ i ≤ b ∧ a ≤ j ∧ j + 1 ≤ b ∧ m = j + 1 - i ∧ m ≤ m0 ∧ Rr v N w0 w') ?_ (j + 1 - i) _ _ ⟨i, j, rfl, h1, h2, h3, h4, rfl, hm, h⟩
    rintro m xs w' ⟨i, j, rfl, h1, h2, h3, h4, rfl, hm, h⟩
    simp only [s67B4, go_sem]
    by_cases c : i ≤ j
    · have d : decide ((i : Int) ≤ (j : Int)) = true := by rw [decide_eq_true_iff]; omega
      simp only [d, go_sem]
      refine h.drew.less (i := j) (j := a) (by omega) (by omega) fun o w2 _ h5 => ?_
      have e1 := wi (x := (i : Int) + 1) (n := i + 1) (by omega) (by omega)
      have e2 := wi (x := (j : Int) - 1) (n := j - 1) (by omega) (by omega)
      simp only [e1, e2, go_sem]
      refine .cond (fun _ => ?_) (fun _ => ?_)
      · exact .ret (.inl ⟨rfl, _, by omega, i, j - 1, rfl, by omega, by omega, by omega, by omega, rfl, by omega, h5⟩)
      · exact .ret (.inr ⟨by simp, Jx i j w2 h1 h2 h3 h4 hm h5⟩)
    · have d : decide ((i : Int) ≤ (j : Int)) = false := by rw [decide_eq_false_iff_not]; omega
      simp only [d, go_sem]
      exact .ret (.inr ⟨by simp, Jx i j _ h1 h2 h3 h4 hm h.drew⟩)
  have Ix : ∀ (i j : Nat) (w : World), a + 1 ≤ i → i ≤ b → a ≤ j → j + 1 ≤ b → j + 1 - i ≤ m0 → Rr v N w0 w → Brings (s67R3 (.exit 6) [v, .int .i64 (a : Int), f30V, .int .i64 (i : Int), .int .i64 (j : Int)] w) (fun r => (r.1 = Exit.normal ∧ ∃ m, m < m0 ∧ ∃ i j : Nat, r.2.1 = [v, .int .i64 (a : Int), f30V, .int .i64 (i : Int), .int .i64 (j : Int)] ∧ a + 1 ≤ i ∧ i ≤ b ∧ a ≤ j ∧ j + 1 ≤ b ∧ m = j + 1 - i ∧ Rr v N w0 r.2.2) ∨ (r.1 ≠ Exit.normal ∧ Brings (s67R2 r.1 r.2.1 r.2.2) (fun r => Rr v N w0 r.2 ∧ ∃ (m : Nat) (x : Bool), r.1 = .tuple #[.int .i64 (m : Int), .bool x] ∧ a ≤ m ∧ m < b))) := by
    intro i j w h1 h2 h3 h4 hm h
    simp only [s67R3, go_sem]
    exact J i j w h1 h2 h3 h4 hm h
  have I : ∀ (i j : Nat) (w : World), a + 1 ≤ i → i ≤ b → a ≤ j → j + 1 ≤ b → j + 1 - i ≤ m0 → Rr v N w0 w → Brings (loopR s67B3 s67R3 [v, .int .i64 (a : Int), f30V, .int .i64 (i : Int), .int .i64 (j : Int)] w) (fun r => (r.1 = Exit.normal ∧ ∃ m, m < m0 ∧ ∃ i j : Nat, r.2.1 = [v, .int .i64 (a : Int), f30V, .int .i64 (i : Int), .int .i64 (j : Int)] ∧ a + 1 ≤ i ∧ i ≤ b ∧ a ≤ j ∧ j + 1 ≤ b ∧ m = j + 1 - i ∧ Rr v N w0 r.2.2) ∨ (r.1 ≠ Exit.normal ∧ Brings (s67R2 r.1 r.2.1 r.2.2) (fun r => Rr v N w0 r.2 ∧ ∃ (m : Nat) (x : Bool), r.1 = .tuple #[.int .i64 (m : Int), .bool x] ∧ a ≤ m ∧ m < b))) := by
    intro i j w h1 h2 h3 h4 hm h
    refine Brings.loop (fun m xs w' => ∃ i j : Nat, xs = [v, .int .i64 (a : Int), f30V, .int .i64 (i : Int), .int .i64 (j : Int)] ∧ a + 1 ≤ i ∧ i ≤ b ∧ a ≤ j ∧ j + 1 ≤ b ∧ m = j + 1 - i ∧ m ≤ m0 ∧ Rr v N w0 w') ?_ (j + 1 - i) _ _ ⟨i, j, rfl, h1, h2, h3, h4, rfl, hm, h⟩
    rintro m xs w' ⟨i, j, rfl, h1, h2, h3, h4, rfl, hm, h⟩
    simp only [s67B3, go_sem]
    by_cases c : i ≤ j
    · have d : decide ((i : Int) ≤ (j : Int)) = true := by rw [decide_eq_true_iff]; omega
      simp only [d, go_sem]
      refine h.drew.less (i := i) (j := a) (by omega) (by omega) fun o w2 _ h5 => ?_
      have e1 := wi (x := (i : Int) + 1) (n := i + 1) (by omega) (by omega)
      have e2 := wi (x := (j : Int) - 1) (n := j - 1) (by omega) (by omega)
      simp only [e1, e2, go_sem]
      refine .cond (fun _ => ?_) (fun _ => ?_)
      · exact .ret (.inl ⟨rfl, _, by omega, i + 1, j, rfl, by omega, by omega, by omega, by omega, rfl, by omega, h5⟩)
      · exact .ret (.inr ⟨by simp, Ix i j w2 h1 h2 h3 h4 hm h5⟩)
    · have d : decide ((i : Int) ≤ (j : Int)) = false := by rw [decide_eq_false_iff_not]; omega
      simp only [d, go_sem]
      exact .ret (.inr ⟨by simp, Ix i j _ h1 h2 h3 h4 hm h.drew⟩)
  intro i j w h1 h2 h3 h4 hm h
  simp only [s67B2, go_sem]
  exact I i j w h1 h2 h3 h4 hm h

theorem k67 {v : Value} {N a b p : Nat} {w0 w : World} (h : Rr v N w0 w) (hN : N ≤ 100000) (hab : a + 1 < b) (hb : b ≤ N) (hp : a ≤ p) (hp2 : p < b) :
    Brings (Xcall Try.prog (Value.func (Fn.func 67) #[] #[]) #[v, .int .i64 (a : Int), .int .i64 (b : Int), .int .i64 (p : Int), f30V] w) (fun r => Rr v N w0 r.2 ∧ ∃ (m : Nat) (x : Bool), r.1 = .tuple #[.int .i64 (m : Int), .bool x] ∧ a ≤ m ∧ m < b) := by
  refine e67 ?_
  unfold s67
  refine h.drew.swap (by omega) (by omega) fun w5 h5 => ?_
  have e1 := wi (x := (a : Int) + 1) (n := a + 1) (by omega) (by omega)
  have e2 := wi (x := (b : Int) - 1) (n := b - 1) (by omega) (by omega)
  simp only [e1, e2, go_sem]
  obtain ⟨m0, hm0⟩ : ∃ m0 : Nat, m0 = b := ⟨_, rfl⟩
  have Jx : ∀ (i j : Nat) (w : World), a + 1 ≤ i → i ≤ b → a ≤ j → j + 1 ≤ b → j + 1 - i ≤ m0 → Rr v N w0 w → Brings (s67R1 (.exit 2) [v, .int .i64 (a : Int), f30V, .int .i64 (i : Int), .int .i64 (j : Int)] w) (fun r => Rr v N w0 r.2 ∧ ∃ (m : Nat) (x : Bool), r.1 = .tuple #[.int .i64 (m : Int), .bool x] ∧ a ≤ m ∧ m < b) := by
    intro i j w h1 h2 h3 h4 hm h
    simp only [s67R1, go_sem]
    refine .cond (fun c => ?_) (fun c => ?_)
    · refine h.drew.swap (by omega) (by omega) fun w5 h5 => ?_
      simp only [go_sem]
      exact .ret ⟨h5, j, _, rfl, by omega, by omega⟩
    · have c : i ≤ j := by have := of_decide_eq_false c; omega
      refine h.drew.swap (by omega) (by omega) fun w5 h5 => ?_
      have e1 := wi (x := (i : Int) + 1) (n := i + 1) (by omega) (by omega)
      have e2 := wi (x := (j : Int) - 1) (n := j - 1) (by omega) (by omega)
      simp only [e1, e2, go_sem]
      refine Brings.loop (fun m xs w' => ∃ i j : Nat, xs = [v, .int .i64 (a : Int), f30V, .int .i64 (i : Int), .int .i64 (j : Int)] ∧ a + 1 ≤ i ∧ i ≤ b ∧ a ≤ j ∧ j + 1 ≤ b ∧ m = j + 1 - i ∧ Rr v N w0 w') ?_ _ _ _ ⟨i + 1, j - 1, rfl, by omega, by omega, by omega, by omega, rfl, h5⟩
      rintro m xs w' ⟨i, j, rfl, h1, h2, h3, h4, rfl, h⟩
      exact out67 hN (by omega) hb i j w' h1 h2 h3 h4 (Nat.le_refl _) h
  have J : ∀ (i j : Nat) (w : World), a + 1 ≤ i → i ≤ b → a ≤ j → j + 1 ≤ b → j + 1 - i ≤ m0 → Rr v N w0 w → Brings (loopR s67B1 s67R1 [v, .int .i64 (a : Int), f30V, .int .i64 (i : Int), .int .i64 (j : Int)] w) (fun r => Rr v N w0 r.2 ∧ ∃ (m : Nat) (x : Bool), r.1 = .tuple #[.int .i64 (m : Int), .bool x] ∧ a ≤ m ∧ m < b) := by
    intro i j w h1 h2 h3 h4 hm h
    refine Brings.loop (fun m xs w' => ∃ i j : Nat, xs = [v, .int .i64 (a : Int), f30V, .int .i64 (i : Int), .int .i64 (j : Int)] ∧ a + 1 ≤ i ∧ i ≤ b ∧ a ≤ j ∧ j + 1 ≤ b ∧ m = j + 1 - i ∧ m ≤ m0 ∧ Rr v N w0 w') ?_ (j + 1 - i) _ _ ⟨i, j, rfl, h1, h2, h3, h4, rfl, hm, h⟩
    rintro m xs w' ⟨i, j, rfl, h1, h2, h3, h4, rfl, hm, h⟩
    simp only [s67B1, go_sem]
    by_cases c : i ≤ j
    · have d : decide ((i : Int) ≤ (j : Int)) = true := by rw [decide_eq_true_iff]; omega
      simp only [d, go_sem]
      refine h.drew.less (i := j) (j := a) (by omega) (by omega) fun o w2 _ h5 => ?_
      have e1 := wi (x := (i : Int) + 1) (n := i + 1) (by omega) (by omega)
      have e2 := wi (x := (j : Int) - 1) (n := j - 1) (by omega) (by omega)
      simp only [e1, e2, go_sem]
      refine .cond (fun _ => ?_) (fun _ => ?_)
      · exact .ret (.inl ⟨rfl, _, by omega, i, j - 1, rfl, by omega, by omega, by omega, by omega, rfl, by omega, h5⟩)
      · exact .ret (.inr ⟨by simp, Jx i j w2 h1 h2 h3 h4 hm h5⟩)
    · have d : decide ((i : Int) ≤ (j : Int)) = false := by rw [decide_eq_false_iff_not]; omega
      simp only [d, go_sem]
      exact .ret (.inr ⟨by simp, Jx i j _ h1 h2 h3 h4 hm h.drew⟩)
  have Ix : ∀ (i j : Nat) (w : World), a + 1 ≤ i → i ≤ b → a ≤ j → j + 1 ≤ b → j + 1 - i ≤ m0 → Rr v N w0 w → Brings (s67R0 (.exit 0) [v, .int .i64 (a : Int), f30V, .int .i64 (i : Int), .int .i64 (j : Int)] w) (fun r => Rr v N w0 r.2 ∧ ∃ (m : Nat) (x : Bool), r.1 = .tuple #[.int .i64 (m : Int), .bool x] ∧ a ≤ m ∧ m < b) := by
    intro i j w h1 h2 h3 h4 hm h
    simp only [s67R0, go_sem]
    exact J i j w h1 h2 h3 h4 hm h
  have I : ∀ (i j : Nat) (w : World), a + 1 ≤ i → i ≤ b → a ≤ j → j + 1 ≤ b → j + 1 - i ≤ m0 → Rr v N w0 w → Brings (loopR s67B0 s67R0 [v, .int .i64 (a : Int), f30V, .int .i64 (i : Int), .int .i64 (j : Int)] w) (fun r => Rr v N w0 r.2 ∧ ∃ (m : Nat) (x : Bool), r.1 = .tuple #[.int .i64 (m : Int), .bool x] ∧ a ≤ m ∧ m < b) := by
    intro i j w h1 h2 h3 h4 hm h
    refine Brings.loop (fun m xs w' => ∃ i j : Nat, xs = [v, .int .i64 (a : Int), f30V, .int .i64 (i : Int), .int .i64 (j : Int)] ∧ a + 1 ≤ i ∧ i ≤ b ∧ a ≤ j ∧ j + 1 ≤ b ∧ m = j + 1 - i ∧ m ≤ m0 ∧ Rr v N w0 w') ?_ (j + 1 - i) _ _ ⟨i, j, rfl, h1, h2, h3, h4, rfl, hm, h⟩
    rintro m xs w' ⟨i, j, rfl, h1, h2, h3, h4, rfl, hm, h⟩
    simp only [s67B0, go_sem]
    by_cases c : i ≤ j
    · have d : decide ((i : Int) ≤ (j : Int)) = true := by rw [decide_eq_true_iff]; omega
      simp only [d, go_sem]
      refine h.drew.less (i := i) (j := a) (by omega) (by omega) fun o w2 _ h5 => ?_
      have e1 := wi (x := (i : Int) + 1) (n := i + 1) (by omega) (by omega)
      have e2 := wi (x := (j : Int) - 1) (n := j - 1) (by omega) (by omega)
      simp only [e1, e2, go_sem]
      refine .cond (fun _ => ?_) (fun _ => ?_)
      · exact .ret (.inl ⟨rfl, _, by omega, i + 1, j, rfl, by omega, by omega, by omega, by omega, rfl, by omega, h5⟩)
      · exact .ret (.inr ⟨by simp, Ix i j w2 h1 h2 h3 h4 hm h5⟩)
    · have d : decide ((i : Int) ≤ (j : Int)) = false := by rw [decide_eq_false_iff_not]; omega
      simp only [d, go_sem]
      exact .ret (.inr ⟨by simp, Ix i j _ h1 h2 h3 h4 hm h.drew⟩)
  exact I (a + 1) (b - 1) w5 (by omega) (by omega) (by omega) (by omega) (by omega) h5

end Go.Proofs.Ytcibkmahibnjeaa
