/- The library's sort, whole: it ends, and leaves a row as long as before. -/
import Derived.Test.YtcibkmahibnjeaaTa21
namespace Go.Proofs.Ytcibkmahibnjeaa
open Go Go.Ev Go.RowKit
open Go.Proofs

theorem k60w {v : Value} {N a b : Nat} {w0 w : World} (h : Rr v N w0 w) (hN : N < 256) (hab : a ≤ b) (hb : b ≤ N) :
    Brings (Xcall Try.prog (Value.func (Fn.func 60) #[] #[]) #[v, .int .i64 (a : Int), .int .i64 (b : Int), f30V] w) (fun r => Rr v N w0 r.2) := by
  refine e60 ?_
  unfold s60
  have e1 := wi (x := (a : Int) + 1) (n := a + 1) (by omega) (by omega)
  simp only [e1, go_sem]
  refine Brings.loop (fun m xs w' => ∃ i : Nat, xs = [v, .int .i64 (a : Int), .int .i64 (b : Int), f30V, .int .i64 (i : Int)] ∧ a + 1 ≤ i ∧ i ≤ N + 1 ∧ m = b - i ∧ Rr v N w0 w') ?_ _ _ _ ⟨a + 1, rfl, Nat.le_refl _, by omega, rfl, h⟩
  clear h
  rintro m xs w' ⟨i, rfl, h1, h2, rfl, h⟩
  simp only [s60B0, go_sem]
  refine .cond (fun c => ?_) (fun _ => .ret (.inr ⟨by simp, .ret h⟩))
  have c : i < b := by have := of_decide_eq_true c; omega
  have e2 := wi (x := (i : Int) + 1) (n := i + 1) (by omega) (by omega)
  refine Brings.loop (fun m xs w' => ∃ j : Nat, xs = [v, .int .i64 (a : Int), .int .i64 (b : Int), f30V, .int .i64 (i : Int), .int .i64 (j : Int)] ∧ a ≤ j ∧ j ≤ i ∧ m = j ∧ Rr v N w0 w') ?_ _ _ _ ⟨i, rfl, by omega, Nat.le_refl _, rfl, h⟩
  clear h
  rintro m xs w7 ⟨j, rfl, h3, h4, rfl, h⟩
  have out : ∀ w2, Rr v N w0 w2 → Brings (s60R1 (.exit 2) [v, .int .i64 (a : Int), .int .i64 (b : Int), f30V, .int .i64 (i : Int), .int .i64 (m : Int)] w2) (fun r => (r.1 = Exit.normal ∧ ∃ m, m < b - i ∧ ∃ i : Nat, r.2.1 = [v, .int .i64 (a : Int), .int .i64 (b : Int), f30V, .int .i64 (i : Int)] ∧ a + 1 ≤ i ∧ i ≤ N + 1 ∧ m = b - i ∧ Rr v N w0 r.2.2) ∨ (r.1 ≠ Exit.normal ∧ Brings (s60R0 r.1 r.2.1 r.2.2) fun r => Rr v N w0 r.2)) := by
    intro w2 h
    simp only [s60R1, e2, go_sem]
    exact .ret (.inl ⟨rfl, _, by omega, i + 1, rfl, by omega, by omega, rfl, h⟩)
  simp only [s60B1, go_sem]
  by_cases d : a < m
  · have d1 : decide ((a : Int) < (m : Int)) = true := by rw [decide_eq_true_iff]; omega
    have e5 := wi (x := (m : Int) - 1) (n := m - 1) (by omega) (by omega)
    obtain ⟨g, x, hg, ix, lx⟩ := h.drew.at_ (i := m) (by omega)
    obtain ⟨g2, y, hg2, iy, ly⟩ := h.drew.at_ (i := m - 1) (by omega)
    simp only [d1, go_sem]
    simp only [ix w7.drew, lx, iy w7.drew, ly, e5, go_sem]
    refine (k30 (x := x) (y := y)).bind ?_
    rintro ⟨_, w3⟩ ⟨e7, b3⟩
    simp only at e7 b3
    subst e7
    have h8 := h.drew.bel b3
    simp only [go_sem]
    refine .cond (fun _ => ?_) (fun _ => .ret (.inr ⟨by simp, out w3 h8⟩))
    refine h8.drew.swap (by omega) (by omega) fun w9 h9 => ?_
    simp only [e5, go_sem]
    exact .ret (.inl ⟨rfl, _, by omega, m - 1, rfl, by omega, by omega, rfl, h9⟩)
  · have d1 : decide ((a : Int) < (m : Int)) = false := by rw [decide_eq_false_iff_not]; omega
    simp only [d1, go_sem]
    exact .ret (.inr ⟨by simp, out _ h.drew⟩)

abbrev Rest (v : Value) (N : Nat) (w0 : World) (n : Nat) (a b : Nat) (r : Exit × List Value × World) : Prop :=
  (r.1 = Exit.normal ∧ ∃ m, m < b - a ∧ ∃ (a b : Nat) (lim : Int) (x y : Bool), r.2.1 = [v, .int .i64 (a : Int), .int .i64 (b : Int), .int .i64 lim, f30V, .bool x, .bool y] ∧ a ≤ b ∧ b ≤ N ∧ m = b - a ∧ m ≤ n ∧ Rr v N w0 r.2.2) ∨ (r.1 ≠ Exit.normal ∧ Brings (s50R0 r.1 r.2.1 r.2.2) fun r => Rr v N w0 r.2)

theorem k50w {v : Value} {N : Nat} {w0 : World} (hN : N < 256) : ∀ (n a b : Nat) (w : World) (lim : Int), b - a = n → a ≤ b → b ≤ N → Rr v N w0 w →
    Brings (Xcall Try.prog (Value.func (Fn.func 50) #[] #[]) #[v, .int .i64 (a : Int), .int .i64 (b : Int), .int .i64 lim, f30V] w) (fun r => Rr v N w0 r.2) := by
  intro n
  induction n using Nat.strongRecOn with
  | _ n ih =>
  intro a b w lim hn hab hb h
  refine e50 ?_
  unfold s50
  refine Brings.loop (fun m xs w' => ∃ (a b : Nat) (lim : Int) (x y : Bool), xs = [v, .int .i64 (a : Int), .int .i64 (b : Int), .int .i64 lim, f30V, .bool x, .bool y] ∧ a ≤ b ∧ b ≤ N ∧ m = b - a ∧ m ≤ n ∧ Rr v N w0 w') ?_ n _ _ ⟨a, b, lim, true, true, rfl, hab, hb, hn.symm, Nat.le_refl _, h⟩
  clear h hab hb hn a b lim w
  rintro m xs w ⟨a, b, lim, x, y, rfl, hab, hb, rfl, hn, h⟩
  show Brings _ (Rest v N w0 n a b)
  have e1 := wi (x := (b : Int) - (a : Int)) (n := b - a) (by omega) (by omega)
  simp only [s50B0, e1, go_sem]
  refine .cond (fun _ => ?_) (fun c => ?_)
  · refine (k60w h hN hab hb).bind fun r h2 => ?_
    exact .ret (.inr ⟨by simp, .ret h2⟩)
  have c : 12 < b - a := by have := of_decide_eq_false c; omega
  refine .cond (fun _ => ?_) (fun _ => ?_)
  · refine (k61 h (by omega) (by omega) hb).bind fun r h2 => ?_
    exact .ret (.inr ⟨by simp, .ret h2⟩)
  -- behind the pivot's choice
  have M3 : ∀ (w : World) (lim : Int) (x y : Bool) (p : Nat), a ≤ p → p < b → Rr v N w0 w → Brings (s50M3 v (.int .i64 (a : Int)) (.int .i64 (b : Int)) (.int .i64 lim) f30V (.bool x) (.bool y) (.int .i64 ((b - a : Nat) : Int)) (.int .i64 (p : Int)) w) (Rest v N w0 n a b) := by
    intro w lim x y p hp hp2 h
    have T : ∀ w, Rr v N w0 w → Brings ((Xcall Try.prog (Value.func (Fn.func 67) #[] #[]) #[v, .int .i64 (a : Int), .int .i64 (b : Int), .int .i64 (p : Int), f30V] w).bind fun r1071 =>
      (Qext r1071.1 0).bind fun v1072 =>
      (Qext r1071.1 1).bind fun v1073 =>
      (Qbin Try.prog .sub 3 v1072 (.int .i64 (a : Int))).bind fun v1074 =>
      (Qbin Try.prog .sub 3 (.int .i64 (b : Int)) v1072).bind fun v1075 =>
      (Qbin Try.prog .quo 3 (.int .i64 ((b - a : Nat) : Int)) (.int .i64 8)).bind fun v1076 =>
      (Qbin Try.prog .lss 3 v1074 v1075).bind fun v1077 =>
      condK v1077 (
        (Qbin Try.prog .geq 3 v1074 v1076).bind fun v1078 =>
        (Xcall Try.prog (Value.func (Fn.func 50) #[] #[]) #[v, .int .i64 (a : Int), v1072, .int .i64 lim, f30V] r1071.2).bind fun r1079 =>
        (Qbin Try.prog .add 3 v1072 (.int .i64 1)).bind fun v1080 =>
        some (Exit.normal, [v, v1080, .int .i64 (b : Int), .int .i64 lim, f30V, v1078, v1073], r1079.2)
      ) (
        (Qbin Try.prog .geq 3 v1075 v1076).bind fun v1081 =>
        (Qbin Try.prog .add 3 v1072 (.int .i64 1)).bind fun v1082 =>
        (Xcall Try.prog (Value.func (Fn.func 50) #[] #[]) #[v, v1082, .int .i64 (b : Int), .int .i64 lim, f30V] r1071.2).bind fun r1083 =>
        some (Exit.normal, [v, .int .i64 (a : Int), v1072, .int .i64 lim, f30V, v1081, v1073], r1083.2)
      )) (Rest v N w0 n a b) := by
      intro w h
      refine (k67 h (by omega) (by omega) hb hp hp2).bind ?_
      rintro ⟨_, w2⟩ ⟨h2, q, z, e, hq, hq2⟩
      simp only at e h2
      subst e
      have f1 := wi (x := (q : Int) - (a : Int)) (n := q - a) (by omega) (by omega)
      have f2 := wi (x := (b : Int) - (q : Int)) (n := b - q) (by omega) (by omega)
      have f3 := wi (x := (q : Int) + 1) (n := q + 1) (by omega) (by omega)
      simp only [f1, f2, q8 (n := b - a) (by omega), go_sem]
      refine .cond (fun _ => ?_) (fun _ => ?_)
      · refine (ih (q - a) (by omega) a q w2 lim rfl hq (by omega) h2).bind fun r h3 => ?_
        simp only [f3, go_sem]
        exact .ret (.inl ⟨rfl, _, by omega, q + 1, b, lim, _, z, rfl, by omega, hb, rfl, by omega, h3⟩)
      · simp only [f3, go_sem]
        refine (ih (b - (q + 1)) (by omega) (q + 1) b w2 lim rfl (by omega) hb h2).bind fun r h3 => ?_
        exact .ret (.inl ⟨rfl, _, by omega, a, q, lim, _, z, rfl, hq, by omega, rfl, by omega, h3⟩)
    unfold s50M3
    simp only [go_sem]
    by_cases d : 0 < a
    · have d1 : decide ((0 : Int) < (a : Int)) = true := by rw [decide_eq_true_iff]; omega
      have f1 := wi (x := (a : Int) - 1) (n := a - 1) (by omega) (by omega)
      simp only [d1, f1, go_sem]
      refine h.drew.less (by omega) (by omega) fun o w2 _ h2 => ?_
      simp only [go_sem]
      refine .cond (fun _ => ?_) (fun _ => T w2 h2)
      refine (k66 h2 (by omega) (by omega) hb hp hp2).bind ?_
      rintro ⟨_, w3⟩ ⟨h3, q, e, hq, hq2⟩
      simp only at e h3
      subst e
      exact .ret (.inl ⟨rfl, _, by omega, q, b, lim, x, y, rfl, hq2, hb, rfl, by omega, h3⟩)
    · have d1 : decide ((0 : Int) < (a : Int)) = false := by rw [decide_eq_false_iff_not]; omega
      simp only [d1, go_sem]
      exact T _ h.drew
  have M2 : ∀ (w : World) (lim : Int) (x y : Bool) (p : Nat) (k : Int), a ≤ p → p < b → Rr v N w0 w → Brings (s50M2 v (.int .i64 (a : Int)) (.int .i64 (b : Int)) (.int .i64 lim) f30V (.bool x) (.bool y) (.int .i64 ((b - a : Nat) : Int)) (.int .i64 (p : Int)) (.int .i64 k) w) (Rest v N w0 n a b) := by
    intro w lim x y p k hp hp2 h
    have P : Brings ((Xcall Try.prog (Value.func (Fn.func 65) #[] #[]) #[v, .int .i64 (a : Int), .int .i64 (b : Int), f30V] w).bind fun r1059 =>
      condK r1059.1 (some (Exit.ret, [v, .int .i64 (a : Int), .int .i64 (b : Int), .int .i64 lim, f30V, .bool x, .bool y], r1059.2)) (s50M3 v (.int .i64 (a : Int)) (.int .i64 (b : Int)) (.int .i64 lim) f30V (.bool x) (.bool y) (.int .i64 ((b - a : Nat) : Int)) (.int .i64 (p : Int)) r1059.2)) (Rest v N w0 n a b) := by
      refine (k65 h (by omega) (by omega) hb).bind ?_
      rintro ⟨_, w2⟩ ⟨h2, z, e⟩
      simp only at e h2
      subst e
      refine .cond (fun _ => .ret (.inr ⟨by simp, .ret h2⟩)) fun _ => M3 w2 lim x y p hp hp2 h2
    unfold s50M2
    cases x with
    | false => simp only [go_sem]; exact M3 w lim false y p hp hp2 h
    | true =>
      cases y with
      | false => simp only [go_sem]; exact M3 w lim true false p hp hp2 h
      | true =>
        simp only [go_sem]
        exact .cond (fun _ => P) fun _ => M3 w lim true true p hp hp2 h
  have M1 : ∀ (w : World) (lim : Int) (x y : Bool), Rr v N w0 w → Brings (s50M1 v (.int .i64 (a : Int)) (.int .i64 (b : Int)) (.int .i64 lim) f30V (.bool x) (.bool y) (.int .i64 ((b - a : Nat) : Int)) w) (Rest v N w0 n a b) := by
    intro w lim x y h
    unfold s50M1
    refine (k63 h (by omega) (by omega) hb).bind ?_
    rintro ⟨_, w2⟩ ⟨h2, p, k, e, hp, hp2⟩
    simp only at e h2
    subst e
    simp only [go_sem]
    refine .cond (fun _ => ?_) (fun _ => M2 w2 lim x y p k hp hp2 h2)
    refine (k64 h2 (by omega) (by omega) hb).bind fun r h3 => ?_
    have f1 := wi (x := (b : Int) - 1) (n := b - 1) (by omega) (by omega)
    have f2 := wi (x := (p : Int) - (a : Int)) (n := p - a) (by omega) (by omega)
    have f3 := wi (x := ((b - 1 : Nat) : Int) - ((p - a : Nat) : Int)) (n := b - 1 - (p - a)) (by omega) (by omega)
    simp only [f1, f2, f3, go_sem]
    exact M2 _ lim x y _ _ (by omega) (by omega) h3
  refine .cond (fun _ => ?_) (fun _ => M1 w lim x y h)
  refine (k62 h hN (by omega) hb).bind fun r h2 => ?_
  exact M1 _ _ x y h2

theorem k29w {w : World} {v : Value} {l : List Rw} (ho : Own w v l) (hl : l.length < 256) : Brings (Xcall Try.prog (Value.func (Fn.func 29) #[] #[]) #[v, f30V] w)
    (fun r => Chg (fun k => v.ownBlock = some k) w r.2 ∧ ∃ l', Own r.2 v l' ∧ l'.length = l.length) := by
  refine e29 ?_
  unfold s29
  have hs : ∃ x n c, v = .slice x n c := owns_slice ho
  have V := View.of_owns ho (Rw.lens _)
  have cv : Qconv Try.prog 3 93 (.int .i64 (l.length : Int)) = some (.int .u64 (l.length : Int)) := by rw [Qconv_int (k := .u64) (by kernel_rfl), wrap_u rfl (show l.length < 2 ^ 64 by omega)]
  simp only [V.len und62, cv, go_sem]
  refine (k51 (n := l.length) (by omega)).bind ?_
  rintro _ ⟨m, hm, rfl⟩
  refine (k50w (v := v) (w0 := w) hl l.length 0 l.length w m (by omega) (by omega) (Nat.le_refl _) ⟨Chg.refl _ _, l, ho, rfl⟩).bind ?_
  rintro ⟨_, w2⟩ h2
  exact .ret h2

end Go.Proofs.Ytcibkmahibnjeaa
