/- The library's sort: a few insertions, and its shuffle. -/
import Derived.Test.YtcibkmahibnjeaaTa19
namespace Go.Proofs.Ytcibkmahibnjeaa
open Go Go.Ev Go.RowKit
open Go.Proofs

def Told (v : Value) (N : Nat) (w0 : World) (r : Value × World) : Prop := Rr v N w0 r.2 ∧ ∃ x : Bool, r.1 = .bool x

theorem k65 {v : Value} {N a b : Nat} {w0 w : World} (h : Rr v N w0 w) (hN : N ≤ 100000) (hab : a < b) (hb : b ≤ N) :
    Brings (Xcall Try.prog (Value.func (Fn.func 65) #[] #[]) #[v, .int .i64 (a : Int), .int .i64 (b : Int), f30V] w) (Told v N w0) := by
  refine e65 ?_
  unfold s65
  have e1 := wi (x := (a : Int) + 1) (n := a + 1) (by omega) (by omega)
  simp only [e1, go_sem]
  refine Brings.loop (fun m xs w' => ∃ i : Nat, xs = [v, .int .i64 (a : Int), .int .i64 (b : Int), f30V, .bool false, .int .i64 (i : Int), .int .i64 (5 - (m : Int))] ∧ a + 1 ≤ i ∧ i ≤ b ∧ m ≤ 5 ∧ Rr v N w0 w') ?_ 5 _ _ ⟨a + 1, rfl, by omega, by omega, by omega, h⟩
  clear h
  rintro m0 xs w' ⟨i, rfl, h1, h2, hm0, h⟩
  simp only [s65B0, go_sem]
  refine .cond (fun c => ?_) (fun _ => .ret (.inr ⟨by simp, .ret ⟨h, _, rfl⟩⟩))
  have c : 1 ≤ m0 := by have := of_decide_eq_true c; omega
  have hw' := h
  clear h
  -- what is done behind a swap
  have M : ∀ (i : Nat) (w : World), a + 1 ≤ i → i < b → Rr v N w0 w → Brings (s65M2 v (.int .i64 (a : Int)) (.int .i64 (b : Int)) f30V (.bool false) (.int .i64 (i : Int)) (.int .i64 (5 - (m0 : Int))) w) (fun r => (r.1 = Exit.normal ∧ ∃ m, m < m0 ∧ ∃ i : Nat, r.2.1 = [v, .int .i64 (a : Int), .int .i64 (b : Int), f30V, .bool false, .int .i64 (i : Int), .int .i64 (5 - (m : Int))] ∧ a + 1 ≤ i ∧ i ≤ b ∧ m ≤ 5 ∧ Rr v N w0 r.2.2) ∨ (r.1 ≠ Exit.normal ∧ Brings (s65R0 r.1 r.2.1 r.2.2) (Told v N w0))) := by
    intro i w h1 h2 h
    unfold s65M2
    have e2 := wi (x := (b : Int) - (i : Int)) (n := b - i) (by omega) (by omega)
    have e3 := wi (x := (i : Int) + 1) (n := i + 1) (by omega) (by omega)
    have e4 : IntKind.i64.wrap (5 - (m0 : Int) + 1) = 5 - ((m0 - 1 : Nat) : Int) := by rw [wrap_i64 (by omega) (by omega)]; omega
    simp only [e2, go_sem]
    refine .cond (fun c => ?_) (fun c => ?_)
    · simp only [e3, go_sem]
      refine Brings.loop (fun m xs w' => ∃ j : Nat, xs = [v, .int .i64 (a : Int), .int .i64 (b : Int), f30V, .bool false, .int .i64 (i : Int), .int .i64 (5 - (m0 : Int)), .int .i64 (j : Int)] ∧ i + 1 ≤ j ∧ j ≤ b ∧ m = b - j ∧ Rr v N w0 w') ?_ _ _ _ ⟨i + 1, rfl, by omega, by omega, rfl, h⟩
      clear h
      rintro m xs w' ⟨j, rfl, h3, h4, rfl, h⟩
      have out : ∀ w2, Rr v N w0 w2 → Brings (s65R4 (.exit 6) [v, .int .i64 (a : Int), .int .i64 (b : Int), f30V, .bool false, .int .i64 (i : Int), .int .i64 (5 - (m0 : Int)), .int .i64 (j : Int)] w2) (fun r => (r.1 = Exit.normal ∧ ∃ m, m < m0 ∧ ∃ i : Nat, r.2.1 = [v, .int .i64 (a : Int), .int .i64 (b : Int), f30V, .bool false, .int .i64 (i : Int), .int .i64 (5 - (m : Int))] ∧ a + 1 ≤ i ∧ i ≤ b ∧ m ≤ 5 ∧ Rr v N w0 r.2.2) ∨ (r.1 ≠ Exit.normal ∧ Brings (s65R0 r.1 r.2.1 r.2.2) (Told v N w0))) := by
        intro w2 h
        simp only [s65R4, e4, go_sem]
        exact .ret (.inl ⟨rfl, m0 - 1, by omega, i, rfl, by omega, by omega, by omega, h⟩)
      simp only [s65B4, go_sem]
      refine .cond (fun c => ?_) (fun c => ?_)
      · have c : j < b := by have := of_decide_eq_true c; omega
        have e5 := wi (x := (j : Int) - 1) (n := j - 1) (by omega) (by omega)
        have e6 := wi (x := (j : Int) + 1) (n := j + 1) (by omega) (by omega)
        obtain ⟨g, x, hg, ix, lx⟩ := h.drew.at_ (i := j) (by omega)
        obtain ⟨g2, y, hg2, iy, ly⟩ := h.drew.at_ (i := j - 1) (by omega)
        simp only [ix w'.drew, lx, iy w'.drew, ly, e5, go_sem]
        refine (k30 (x := x) (y := y)).bind ?_
        rintro ⟨_, w3⟩ ⟨e7, b3⟩
        simp only at e7 b3
        subst e7
        have h5 := h.drew.bel b3
        simp only [go_sem]
        refine .cond (fun _ => ?_) (fun _ => ?_)
        · exact .ret (.inr ⟨by simp, out _ h5⟩)
        · refine h5.drew.swap (by omega) (by omega) fun w6 h6 => ?_
          simp only [e6, go_sem]
          exact .ret (.inl ⟨rfl, _, by omega, j + 1, rfl, by omega, by omega, rfl, h6⟩)
      · exact .ret (.inr ⟨by simp, out _ h⟩)
    · simp only [e4, go_sem]
      exact .ret (.inl ⟨rfl, m0 - 1, by omega, i, rfl, by omega, by omega, by omega, h⟩)
  -- behind the search
  have R : ∀ (i : Nat) (w : World), a + 1 ≤ i → i ≤ b → Rr v N w0 w → Brings (s65R1 (.exit 2) [v, .int .i64 (a : Int), .int .i64 (b : Int), f30V, .bool false, .int .i64 (i : Int), .int .i64 (5 - (m0 : Int))] w) (fun r => (r.1 = Exit.normal ∧ ∃ m, m < m0 ∧ ∃ i : Nat, r.2.1 = [v, .int .i64 (a : Int), .int .i64 (b : Int), f30V, .bool false, .int .i64 (i : Int), .int .i64 (5 - (m : Int))] ∧ a + 1 ≤ i ∧ i ≤ b ∧ m ≤ 5 ∧ Rr v N w0 r.2.2) ∨ (r.1 ≠ Exit.normal ∧ Brings (s65R0 r.1 r.2.1 r.2.2) (Told v N w0))) := by
    intro i w h1 h2 h
    have e2 := wi (x := (b : Int) - (a : Int)) (n := b - a) (by omega) (by omega)
    have e3 := wi (x := (i : Int) - 1) (n := i - 1) (by omega) (by omega)
    have e4 := wi (x := (i : Int) - (a : Int)) (n := i - a) (by omega) (by omega)
    simp only [s65R1, go_sem]
    refine .cond (fun _ => .ret (.inr ⟨by simp, .ret ⟨h, _, rfl⟩⟩)) (fun c => ?_)
    have c : i < b := by
      have : ¬ (i : Int) = (b : Int) := by simpa using c
      omega
    simp only [e2, go_sem]
    refine .cond (fun _ => .ret (.inr ⟨by simp, .ret ⟨h, _, rfl⟩⟩)) (fun _ => ?_)
    simp only [e3, go_sem]
    refine h.drew.swap (by omega) (by omega) fun w6 h6 => ?_
    simp only [e4, go_sem]
    refine .cond (fun c2 => ?_) (fun _ => M i w6 h1 c h6)
    have c2 : 2 ≤ i - a := by have := of_decide_eq_true c2; omega
    refine Brings.loop (fun m xs w' => xs = [v, .int .i64 (a : Int), .int .i64 (b : Int), f30V, .bool false, .int .i64 (i : Int), .int .i64 (5 - (m0 : Int)), .int .i64 (m : Int)] ∧ m < i ∧ Rr v N w0 w') ?_ (i - 1) _ _ ⟨rfl, by omega, h6⟩
    rintro j xs w7 ⟨rfl, hj, h7⟩
    simp only [s65B3, go_sem]
    refine .cond (fun c3 => ?_) (fun _ => .ret (.inr ⟨by simp, M i w7 h1 c h7⟩))
    have c3 : 1 ≤ j := by have := of_decide_eq_true c3; omega
    have e5 := wi (x := (j : Int) - 1) (n := j - 1) (by omega) (by omega)
    obtain ⟨g, x, hg, ix, lx⟩ := h7.drew.at_ (i := j) (by omega)
    obtain ⟨g2, y, hg2, iy, ly⟩ := h7.drew.at_ (i := j - 1) (by omega)
    simp only [ix w7.drew, lx, iy w7.drew, ly, e5, go_sem]
    refine (k30 (x := x) (y := y)).bind ?_
    rintro ⟨_, w3⟩ ⟨e7, b3⟩
    simp only at e7 b3
    subst e7
    have h8 := h7.drew.bel b3
    simp only [go_sem]
    refine .cond (fun _ => .ret (.inr ⟨by simp, M i w3 h1 c h8⟩)) (fun _ => ?_)
    refine h8.drew.swap (by omega) (by omega) fun w9 h9 => ?_
    simp only [e5, go_sem]
    exact .ret (.inl ⟨rfl, j - 1, by omega, rfl, by omega, h9⟩)
  refine Brings.loop (fun m xs w' => ∃ i : Nat, xs = [v, .int .i64 (a : Int), .int .i64 (b : Int), f30V, .bool false, .int .i64 (i : Int), .int .i64 (5 - (m0 : Int))] ∧ a + 1 ≤ i ∧ i ≤ b ∧ m = b - i ∧ Rr v N w0 w') ?_ _ _ _ ⟨i, rfl, h1, h2, rfl, hw'⟩
  clear hw' h1 h2
  rintro m xs w7 ⟨i, rfl, h1, h2, rfl, h⟩
  simp only [s65B1, go_sem]
  by_cases d : i < b
  · have d1 : decide ((i : Int) < (b : Int)) = true := by rw [decide_eq_true_iff]; omega
    have e5 := wi (x := (i : Int) - 1) (n := i - 1) (by omega) (by omega)
    have e6 := wi (x := (i : Int) + 1) (n := i + 1) (by omega) (by omega)
    obtain ⟨g, x, hg, ix, lx⟩ := h.drew.at_ (i := i) (by omega)
    obtain ⟨g2, y, hg2, iy, ly⟩ := h.drew.at_ (i := i - 1) (by omega)
    simp only [d1, go_sem]
    simp only [ix w7.drew, lx, iy w7.drew, ly, e5, go_sem]
    refine (k30 (x := x) (y := y)).bind ?_
    rintro ⟨_, w3⟩ ⟨e7, b3⟩
    simp only at e7 b3
    subst e7
    have h8 := h.drew.bel b3
    simp only [go_sem]
    refine .cond (fun _ => ?_) (fun _ => .ret (.inr ⟨by simp, R i w3 h1 h2 h8⟩))
    simp only [e6, go_sem]
    exact .ret (.inl ⟨rfl, _, by omega, i + 1, rfl, by omega, by omega, rfl, h8⟩)
  · have d1 : decide ((i : Int) < (b : Int)) = false := by rw [decide_eq_false_iff_not]; omega
    simp only [d1, go_sem]
    exact .ret (.inr ⟨by simp, R i _ h1 h2 h.drew⟩)

end Go.Proofs.Ytcibkmahibnjeaa
