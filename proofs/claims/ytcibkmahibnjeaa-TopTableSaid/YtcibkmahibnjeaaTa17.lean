/- The library's sort of more rows than twelve: it ends, and leaves a row as long as before. -/
import Derived.Test.YtcibkmahibnjeaaTa16
namespace Go.Proofs.Ytcibkmahibnjeaa
open Go Go.Ev Go.RowKit
open Go.Proofs

theorem wi {x : Int} {n : Nat} (h : x = n) (hn : n < 4611686018427387904) : IntKind.i64.wrap x = (n : Int) := by
  rw [wrap_i64 (by omega) (by omega), h]

theorem quo_ {c : Int} {n d : Nat} (hc : c ≠ 0) (hcd : c = d) (hn : n < 4611686018427387904) : Qbin Try.prog .quo 3 (.int .i64 (n : Int)) (.int .i64 c) = some (.int .i64 ((n / d : Nat) : Int)) := by
  have : n / d ≤ n := Nat.div_le_self n d
  rw [Qb_quoP hc, Int.tdiv_eq_ediv_of_nonneg (by omega), hcd, wi (x := (n : Int) / (d : Int)) (n := n / d) (by omega) (by omega)]
theorem q2 {n : Nat} (hn : n < 4611686018427387904) : Qbin Try.prog .quo 3 (.int .i64 (n : Int)) (.int .i64 2) = some (.int .i64 ((n / 2 : Nat) : Int)) := quo_ (by decide) rfl hn
theorem q4 {n : Nat} (hn : n < 4611686018427387904) : Qbin Try.prog .quo 3 (.int .i64 (n : Int)) (.int .i64 4) = some (.int .i64 ((n / 4 : Nat) : Int)) := quo_ (by decide) rfl hn
theorem q8 {n : Nat} (hn : n < 4611686018427387904) : Qbin Try.prog .quo 3 (.int .i64 (n : Int)) (.int .i64 8) = some (.int .i64 ((n / 8 : Nat) : Int)) := quo_ (by decide) rfl hn

/-- A row of N, of which only itself has turned. -/
def Rr (v : Value) (N : Nat) (w0 w : World) : Prop := Chg (fun k => v.ownBlock = some k) w0 w ∧ ∃ l, Own w v l ∧ l.length = N
theorem Rr.bel {v : Value} {N : Nat} {w0 w w' : World} (h : Rr v N w0 w) (b : Bel w w') : Rr v N w0 w' := by
  obtain ⟨h1, l, h2, h3⟩ := h
  exact ⟨h1.thenBel b, l, later_bel h2 b, h3⟩
theorem Rr.drew {v : Value} {N : Nat} {w0 w : World} (h : Rr v N w0 w) : Rr v N w0 w.drew := h.bel (Bel.refl w).drew
theorem Rr.at_ {v : Value} {N : Nat} {w0 w : World} (h : Rr v N w0 w) {i : Nat} (hi : i < N) : ∃ (g : Nat) (x : Rw), v.ownBlock = some g ∧ (∀ w2, QindexAddr Try.prog 62 v (.int .i64 (i : Int)) w2 = some (.pointer (some ⟨g, i * 8, none⟩))) ∧ Qload Try.prog 73 (.pointer (some ⟨g, i * 8, none⟩)) w = some x.v := by
  obtain ⟨h1, l, h2, rfl⟩ := h
  obtain ⟨g, hg, ix, lx⟩ := own_at h2 (i := i) (x := l[i]) (by rw [List.getElem?_eq_getElem hi])
  exact ⟨g, _, hg, ix, lx⟩
theorem Rr.put {v : Value} {N : Nat} {w0 w : World} (h : Rr v N w0 w) {i g : Nat} (hi : i < N) (hg : v.ownBlock = some g) (y : Rw) : ∃ w5, Xstore Try.prog 73 (.pointer (some ⟨g, i * 8, none⟩)) y.v w = some (undef, w5) ∧ Rr v N w0 w5 := by
  obtain ⟨h1, l, h2, rfl⟩ := h
  obtain ⟨w5, e5, o5, c5⟩ := own_put (y := y) h2 hg (i := i) hi
  exact ⟨w5, e5, h1.trans (c5.mono fun k _ hk => by subst hk; exact hg) fun _ _ h => h, _, o5, by simp⟩

section
variable {v : Value} {N i j : Nat} {w0 w : World} {β : Type} {Q : β → Prop}
/-- cmp(data[i], data[j]) -/
theorem Rr.less (h : Rr v N w0 w) (hi : i < N) (hj : j < N) {F : Value × World → Option β} (hF : ∀ (o : Int) (w' : World), Bel w w' → Rr v N w0 w' → Brings (F (.int .i64 o, w')) Q) :
    Brings ((QindexAddr Try.prog 62 v (.int .i64 (i : Int)) w).bind fun a => (Qload Try.prog 73 a w).bind fun x => (QindexAddr Try.prog 62 v (.int .i64 (j : Int)) w).bind fun b => (Qload Try.prog 73 b w).bind fun y => (Xcall Try.prog f30V #[x, y] w).bind F) Q := by
  obtain ⟨g, x, hg, ix, lx⟩ := h.at_ hi
  obtain ⟨g2, y, hg2, iy, ly⟩ := h.at_ hj
  rw [ix, Option.bind_some, lx, Option.bind_some, iy, Option.bind_some, ly, Option.bind_some]
  refine (k30 (x := x) (y := y)).bind ?_
  rintro ⟨_, w3⟩ ⟨e3, b3⟩
  simp only at e3 b3
  subst e3
  exact hF _ _ b3 (h.bel b3)
/-- data[i], data[j] = data[j], data[i] -/
theorem Rr.swap (h : Rr v N w0 w) (hi : i < N) (hj : j < N) {F : Value × World → Option β} (hF : ∀ w', Rr v N w0 w' → Brings (F (undef, w')) Q) :
    Brings ((QindexAddr Try.prog 62 v (.int .i64 (j : Int)) w).bind fun a => (Qload Try.prog 73 a w).bind fun y => (QindexAddr Try.prog 62 v (.int .i64 (i : Int)) w).bind fun b => (Qload Try.prog 73 b w).bind fun x =>
      (QindexAddr Try.prog 62 v (.int .i64 (i : Int)) w).bind fun c => (Xstore Try.prog 73 c y w).bind fun r => (QindexAddr Try.prog 62 v (.int .i64 (j : Int)) r.2).bind fun d => (Xstore Try.prog 73 d x r.2).bind F) Q := by
  obtain ⟨g, x, hg, ix, lx⟩ := h.at_ hi
  obtain ⟨g2, y, hg2, iy, ly⟩ := h.at_ hj
  obtain rfl : g2 = g := Option.some.inj (hg2.symm.trans hg)
  obtain ⟨w5, e5, r5⟩ := h.put hi hg y
  obtain ⟨w6, e6, r6⟩ := r5.put hj hg x
  simp only [ix, iy, lx, ly, e5, e6, Option.bind_some]
  exact hF _ r6
end

theorem k71 {v : Value} {N lo hi first : Nat} {w0 w : World} (h : Rr v N w0 w) (hN : N ≤ 100000) (hh : first + hi ≤ N) (hlo : lo ≤ N) :
    Brings (Xcall Try.prog (Value.func (Fn.func 71) #[] #[]) #[v, .int .i64 (lo : Int), .int .i64 (hi : Int), .int .i64 (first : Int), f30V] w) (fun r => Rr v N w0 r.2) := by
  refine e71 ?_
  unfold s71
  refine Brings.loop (fun m xs w' => ∃ r : Nat, xs = [v, .int .i64 (hi : Int), .int .i64 (first : Int), f30V, .int .i64 (r : Int)] ∧ r ≤ N ∧ m = N - r ∧ Rr v N w0 w') ?_ (N - lo) _ _ ⟨lo, rfl, hlo, rfl, h⟩
  rintro m xs w' ⟨r, rfl, hr, rfl, h⟩
  have w1 := wi (x := 2 * (r : Int)) (n := 2 * r) (by omega) (by omega)
  have w2 := wi (x := ((2 * r : Nat) : Int) + 1) (n := 2 * r + 1) (by omega) (by omega)
  simp only [s71B0, w1, w2, go_sem]
  refine .cond (fun _ => ?_) (fun c1 => ?_)
  · exact .ret (.inr ⟨by simp, .ret h⟩)
  · have c1 : 2 * r + 1 < hi := by have := of_decide_eq_false c1; omega
    have M : ∀ (c : Nat) (w1 : World), c < hi → r < c → Rr v N w0 w1 → Brings (s71M1 v (.int .i64 (hi : Int)) (.int .i64 (first : Int)) f30V (.int .i64 (r : Int)) (.int .i64 (c : Int)) w1) (fun r_1 => (r_1.1 = Exit.normal ∧ ∃ m', m' < N - r ∧ ∃ r : Nat, r_1.2.1 = [v, .int .i64 (hi : Int), .int .i64 (first : Int), f30V, .int .i64 (r : Int)] ∧ r ≤ N ∧ m' = N - r ∧ Rr v N w0 r_1.2.2) ∨ r_1.1 ≠ Exit.normal ∧ Brings (s71R0 r_1.1 r_1.2.1 r_1.2.2) (fun r => Rr v N w0 r.2)) := by
      intro c w3 hc hrc h3
      unfold s71M1
      have w4 := wi (x := (first : Int) + (r : Int)) (n := first + r) (by omega) (by omega)
      have w5 := wi (x := (first : Int) + (c : Int)) (n := first + c) (by omega) (by omega)
      simp only [w4, w5, go_sem]
      refine h3.drew.less (by omega) (by omega) fun o w' _ h4 => ?_
      simp only [go_sem]
      refine .cond (fun _ => ?_) (fun _ => ?_)
      · exact .ret (.inr ⟨by simp, .ret h4⟩)
      · refine h4.drew.swap (by omega) (by omega) fun w5 h5 => ?_
        simp only [go_sem]
        exact .ret (.inl ⟨rfl, N - c, by omega, c, rfl, by omega, rfl, h5⟩)
    have w6 := wi (x := ((2 * r + 1 : Nat) : Int) + 1) (n := 2 * r + 1 + 1) (by omega) (by omega)
    have w7 := wi (x := (first : Int) + ((2 * r + 1 : Nat) : Int)) (n := first + (2 * r + 1)) (by omega) (by omega)
    have w8 := wi (x := ((first + (2 * r + 1) : Nat) : Int) + 1) (n := first + (2 * r + 1) + 1) (by omega) (by omega)
    simp only [w6, go_sem]
    by_cases c2 : 2 * r + 1 + 1 < hi
    · have d2 : decide (((2 * r + 1 + 1 : Nat) : Int) < (hi : Int)) = true := by rw [decide_eq_true_iff]; omega
      simp only [d2, w7, w8, go_sem]
      refine h.drew.less (by omega) (by omega) fun o w3 _ h4 => ?_
      simp only [go_sem]
      refine .cond (fun _ => ?_) (fun _ => ?_)
      · exact M _ _ (by omega) (by omega) h4
      · exact M _ _ (by omega) (by omega) h4
    · have d2 : decide (((2 * r + 1 + 1 : Nat) : Int) < (hi : Int)) = false := by rw [decide_eq_false_iff_not]; omega
      simp only [d2, go_sem]
      exact M _ _ (by omega) (by omega) h.drew

theorem k61 {v : Value} {N a b : Nat} {w0 w : World} (h : Rr v N w0 w) (hN : N ≤ 100000) (hab : a < b) (hb : b ≤ N) :
    Brings (Xcall Try.prog (Value.func (Fn.func 61) #[] #[]) #[v, .int .i64 (a : Int), .int .i64 (b : Int), f30V] w) (fun r => Rr v N w0 r.2) := by
  refine e61 ?_
  unfold s61
  have w1 := wi (x := (b : Int) - (a : Int)) (n := b - a) (by omega) (by omega)
  have w2 := wi (x := ((b - a : Nat) : Int) - 1) (n := b - a - 1) (by omega) (by omega)
  simp only [w1, w2, q2 (n := b - a - 1) (by omega), go_sem]
  generalize hn : b - a = n
  refine Brings.loop (fun m xs w' => xs = [v, f30V, .int .i64 (a : Int), .int .i64 0, .int .i64 (n : Int), .int .i64 ((m : Int) - 1)] ∧ m ≤ n ∧ Rr v N w0 w') ?_ ((n - 1) / 2 + 1) _ _ ⟨by rw [show (((n - 1) / 2 + 1 : Nat) : Int) - 1 = (((n - 1) / 2 : Nat) : Int) by omega], by omega, h⟩
  rintro m xs w' ⟨rfl, hm, h⟩
  simp only [s61B0, go_sem]
  refine .cond (fun c => ?_) (fun c => ?_)
  · have c : 1 ≤ m := by have := of_decide_eq_true c; omega
    obtain ⟨i, rfl⟩ : ∃ i, m = i + 1 := ⟨m - 1, by omega⟩
    rw [show ((i + 1 : Nat) : Int) - 1 = (i : Int) by omega]
    refine (k71 h hN (by omega) (by omega)).bind fun r h2 => ?_
    have w4 : IntKind.i64.wrap ((i : Int) - 1) = (i : Int) - 1 := wrap_i64 (by omega) (by omega)
    simp only [w4, go_sem]
    exact .ret (.inl ⟨rfl, i, by omega, rfl, by omega, h2⟩)
  · refine .ret (.inr ⟨by simp, ?_⟩)
    have w5 : IntKind.i64.wrap ((n : Int) - 1) = (n : Int) - 1 := wrap_i64 (by omega) (by omega)
    simp only [s61R0, w5, go_sem]
    refine Brings.loop (fun m xs w' => xs = [v, f30V, .int .i64 (a : Int), .int .i64 0, .int .i64 ((m : Int) - 1)] ∧ m ≤ n ∧ Rr v N w0 w') ?_ n _ _ ⟨rfl, by omega, h⟩
    rintro m xs w' ⟨rfl, hm, h⟩
    simp only [s61B1, go_sem]
    refine .cond (fun c => ?_) (fun c => ?_)
    · have c : 1 ≤ m := by have := of_decide_eq_true c; omega
      obtain ⟨i, rfl⟩ : ∃ i, m = i + 1 := ⟨m - 1, by omega⟩
      rw [show ((i + 1 : Nat) : Int) - 1 = (i : Int) by omega]
      have w6 := wi (x := (a : Int) + (i : Int)) (n := a + i) (by omega) (by omega)
      have w4 : IntKind.i64.wrap ((i : Int) - 1) = (i : Int) - 1 := wrap_i64 (by omega) (by omega)
      simp only [w6, go_sem]
      refine h.drew.swap (by omega) (by omega) fun w3 h3 => ?_
      simp only [go_sem]
      refine (k71 (lo := 0) h3 hN (by omega) (by omega)).bind fun r h4 => ?_
      simp only [w4, go_sem]
      exact .ret (.inl ⟨rfl, i, by omega, rfl, by omega, h4⟩)
    · exact .ret (.inr ⟨by simp, .ret h⟩)

theorem k64 {v : Value} {N a b : Nat} {w0 w : World} (h : Rr v N w0 w) (hN : N ≤ 100000) (hab : a < b) (hb : b ≤ N) :
    Brings (Xcall Try.prog (Value.func (Fn.func 64) #[] #[]) #[v, .int .i64 (a : Int), .int .i64 (b : Int), f30V] w) (fun r => Rr v N w0 r.2) := by
  refine e64 ?_
  unfold s64
  have w1 := wi (x := (b : Int) - 1) (n := b - 1) (by omega) (by omega)
  simp only [w1, go_sem]
  refine Brings.loop (fun m xs w' => ∃ i j : Nat, xs = [v, .int .i64 (i : Int), .int .i64 (j : Int)] ∧ j < N ∧ i ≤ N ∧ m = j + 1 - i ∧ Rr v N w0 w') ?_ (b - 1 + 1 - a) _ _ ⟨a, b - 1, rfl, by omega, by omega, by omega, h⟩
  rintro m xs w' ⟨i, j, rfl, hj, hi, rfl, h⟩
  simp only [s64B0, go_sem]
  refine .cond (fun c => ?_) (fun c => ?_)
  · have c : i < j := by have := of_decide_eq_true c; omega
    have w4 := wi (x := (i : Int) + 1) (n := i + 1) (by omega) (by omega)
    have w5 := wi (x := (j : Int) - 1) (n := j - 1) (by omega) (by omega)
    refine h.drew.swap (by omega) (by omega) fun w3 h3 => ?_
    simp only [w4, w5, go_sem]
    exact .ret (.inl ⟨rfl, _, by omega, i + 1, j - 1, rfl, by omega, by omega, rfl, h3⟩)
  · exact .ret (.inr ⟨by simp, .ret h⟩)

/-! ## The pivot -/

theorem inf3s : ∃ i, Try.prog.info? 3 = some i ∧ i.size = 1 := ⟨(Try.prog.info? 3).get (by kernel_rfl), by kernel_rfl, by kernel_rfl⟩
theorem one3s : one Try.prog 3 = true := by kernel_rfl
/-- The row, and a number of its own. -/
def Sw (v : Value) (N : Nat) (w0 : World) (g : Nat) (w : World) : Prop := Rr v N w0 w ∧ w0.heap.size ≤ g ∧ v.ownBlock ≠ some g ∧ ∃ k : Int, w.heap[g]? = some (.cells #[.int .i64 k] 3 (0, 0))
section
variable {v : Value} {N g : Nat} {w0 w w' : World}
theorem Sw.bel (h : Sw v N w0 g w) (b : Bel w w') : Sw v N w0 g w' := by
  obtain ⟨h1, h2, h3, k, h4⟩ := h
  exact ⟨h1.bel b, h2, h3, k, b.at_ h4⟩
theorem Sw.get (h : Sw v N w0 g w) : ∃ k : Int, Qload Try.prog 3 (.pointer (some ⟨g, 0, none⟩)) w = some (.int .i64 k) := by
  obtain ⟨h1, h2, h3, k, h4⟩ := h
  exact ⟨k, Qload_cell one3s (by simp [World.cell?, h4])⟩
theorem Sw.put (h : Sw v N w0 g w) (n : Int) : ∃ w5, Xstore Try.prog 3 (.pointer (some ⟨g, 0, none⟩)) (.int .i64 n) w = some (undef, w5) ∧ Sw v N w0 g w5 := by
  obtain ⟨⟨h1, l, ho, hl⟩, h2, h3, k, h4⟩ := h
  obtain ⟨i, hi, hs⟩ := inf3s
  refine ⟨_, Xstore_var hi (by rw [hs]; rfl) h4 (by rw [hs]; rfl) (by simp [Value.cells, Value.oneCell']), ⟨?_, l, ?_, hl⟩, h2, h3, n, ?_⟩
  · exact h1.trans (setRow_chg _ _) fun k hk e => by subst e; omega
  · exact (setRow_chg _ _).owns ho fun k hk e => by subst e; exact h3 hk
  · rw [setRow_heap w g _ _ 3 _ h4]; rfl
end

theorem k76 {v : Value} {N g i j : Nat} {w0 w : World} (h : Sw v N w0 g w) (hi : i < N) (hj : j < N) :
    Brings (Xcall Try.prog (Value.func (Fn.func 76) #[] #[]) #[v, .int .i64 (i : Int), .int .i64 (j : Int), .pointer (some ⟨g, 0, none⟩), f30V] w) (fun r => Sw v N w0 g r.2 ∧ (r.1 = .tuple #[.int .i64 (i : Int), .int .i64 (j : Int)] ∨ r.1 = .tuple #[.int .i64 (j : Int), .int .i64 (i : Int)])) := by
  refine e76 ?_
  unfold s76
  refine h.1.drew.less hj hi fun o w' b h1 => ?_
  have h2 := (h.bel (Bel.refl w).drew).bel b
  simp only [go_sem]
  refine .cond (fun _ => ?_) (fun _ => ?_)
  · obtain ⟨k, hk⟩ := h2.get
    simp only [hk, go_sem]
    obtain ⟨w5, e5, h5⟩ := h2.put (IntKind.i64.wrap (k + 1))
    simp only [e5, go_sem]
    exact .ret ⟨h5, .inr rfl⟩
  · exact .ret ⟨h2, .inl rfl⟩

theorem k75 {v : Value} {N g i j k : Nat} {w0 w : World} (h : Sw v N w0 g w) (hi : i < N) (hj : j < N) (hk : k < N) :
    Brings (Xcall Try.prog (Value.func (Fn.func 75) #[] #[]) #[v, .int .i64 (i : Int), .int .i64 (j : Int), .int .i64 (k : Int), .pointer (some ⟨g, 0, none⟩), f30V] w) (fun r => Sw v N w0 g r.2 ∧ ∃ m : Nat, r.1 = .int .i64 (m : Int) ∧ (m = i ∨ m = j ∨ m = k)) := by
  refine e75 ?_
  unfold s75
  refine (k76 h hi hj).bind ?_
  have T : ∀ (a b : Nat), (a = i ∧ b = j ∨ a = j ∧ b = i) → ∀ w1, Sw v N w0 g w1 → Brings ((Xcall Try.prog (Value.func (Fn.func 76) #[] #[]) #[v, .int .i64 (b : Int), .int .i64 (k : Int), .pointer (some ⟨g, 0, none⟩), f30V] w1).bind fun r1601 =>
      (Qext r1601.1 0).bind fun v1602 => (Qext r1601.1 1).bind fun _ => (Xcall Try.prog (Value.func (Fn.func 76) #[] #[]) #[v, .int .i64 (a : Int), v1602, .pointer (some ⟨g, 0, none⟩), f30V] r1601.2).bind fun r1604 =>
      (Qext r1604.1 0).bind fun _ => (Qext r1604.1 1).bind fun v1606 => some (v1606, r1604.2)) (fun r => Sw v N w0 g r.2 ∧ ∃ m : Nat, r.1 = .int .i64 (m : Int) ∧ (m = i ∨ m = j ∨ m = k)) := by
    intro a b hab w1 h1
    refine (k76 h1 (i := b) (j := k) (by omega) hk).bind ?_
    rintro ⟨_, w2⟩ ⟨h2, e | e⟩ <;> simp only at e h2 <;> subst e <;> simp only [go_sem]
    · refine (k76 h2 (i := a) (j := b) (by omega) (by omega)).bind ?_
      rintro ⟨_, w3⟩ ⟨h3, e | e⟩ <;> simp only at e h3 <;> subst e <;> simp only [go_sem]
      · exact .ret ⟨h3, b, rfl, by omega⟩
      · exact .ret ⟨h3, a, rfl, by omega⟩
    · refine (k76 h2 (i := a) (j := k) (by omega) (by omega)).bind ?_
      rintro ⟨_, w3⟩ ⟨h3, e | e⟩ <;> simp only at e h3 <;> subst e <;> simp only [go_sem]
      · exact .ret ⟨h3, k, rfl, by omega⟩
      · exact .ret ⟨h3, a, rfl, by omega⟩
  rintro ⟨_, w1⟩ ⟨h1, e | e⟩ <;> simp only at e h1 <;> subst e <;> simp only [go_sem]
  · exact T i j (by omega) w1 h1
  · exact T j i (by omega) w1 h1

theorem k74 {v : Value} {N g i : Nat} {w0 w : World} (h : Sw v N w0 g w) (hN : N ≤ 100000) (hi : 1 ≤ i) (hi2 : i + 1 < N) :
    Brings (Xcall Try.prog (Value.func (Fn.func 74) #[] #[]) #[v, .int .i64 (i : Int), .pointer (some ⟨g, 0, none⟩), f30V] w) (fun r => Sw v N w0 g r.2 ∧ ∃ m : Nat, r.1 = .int .i64 (m : Int) ∧ i - 1 ≤ m ∧ m ≤ i + 1) := by
  refine e74 ?_
  unfold s74
  have w1 := wi (x := (i : Int) - 1) (n := i - 1) (by omega) (by omega)
  have w2 := wi (x := (i : Int) + 1) (n := i + 1) (by omega) (by omega)
  simp only [w1, w2, go_sem]
  refine (k75 h (i := i - 1) (j := i) (k := i + 1) (by omega) (by omega) (by omega)).bind ?_
  rintro ⟨_, w3⟩ ⟨h3, m, e, hm⟩
  simp only at e h3
  subst e
  exact .ret ⟨h3, m, rfl, by omega, by omega⟩

end Go.Proofs.Ytcibkmahibnjeaa
