/- The library's sort: its shuffle, and the whole. -/
import Derived.Test.YtcibkmahibnjeaaTa20
namespace Go.Proofs.Ytcibkmahibnjeaa
open Go Go.Ev Go.RowKit
open Go.Proofs

theorem wu (x : Int) : ∃ n : Nat, n < 18446744073709551616 ∧ IntKind.u64.wrap x = (n : Int) := by
  have h : IntKind.u64.wrap x = x % 18446744073709551616 := by
    unfold IntKind.wrap
    simp [IntKind.bits, IntKind.signed]
  refine ⟨(x % 18446744073709551616).toNat, ?_, ?_⟩
  · have := Int.emod_lt_of_pos x (show (0 : Int) < 18446744073709551616 by decide); have := Int.emod_nonneg x (show (18446744073709551616 : Int) ≠ 0 by decide); omega
  · have := Int.emod_nonneg x (show (18446744073709551616 : Int) ≠ 0 by decide); rw [h]; omega

theorem inf116 : ∃ i, Try.prog.info? 116 = some i ∧ i.size = 1 := ⟨(Try.prog.info? 116).get (by kernel_rfl), by kernel_rfl, by kernel_rfl⟩
theorem one116 : one Try.prog 116 = true := by kernel_rfl
theorem zero116 (w : World) : (zeroValue 116).run Try.prog w = .ok (.int .u64 0) w := by kernel_rfl
/-- The row, and a number without sign of its own. -/
def Xs (v : Value) (N : Nat) (w0 : World) (g : Nat) (w : World) : Prop := Rr v N w0 w ∧ w0.heap.size ≤ g ∧ v.ownBlock ≠ some g ∧ ∃ k : Nat, k < 18446744073709551616 ∧ w.heap[g]? = some (.cells #[.int .u64 (k : Int)] 116 (0, 0))
section
variable {v : Value} {N g : Nat} {w0 w w' : World}
theorem Xs.bel (h : Xs v N w0 g w) (b : Bel w w') : Xs v N w0 g w' := by
  obtain ⟨h1, h2, h3, k, hk, h4⟩ := h
  exact ⟨h1.bel b, h2, h3, k, hk, b.at_ h4⟩
theorem Xs.get (h : Xs v N w0 g w) : ∃ k : Nat, k < 18446744073709551616 ∧ Qload Try.prog 116 (.pointer (some ⟨g, 0, none⟩)) w = some (.int .u64 (k : Int)) := by
  obtain ⟨h1, h2, h3, k, hk, h4⟩ := h
  exact ⟨k, hk, Qload_cell one116 (by simp [World.cell?, h4])⟩
theorem Xs.put (h : Xs v N w0 g w) {n : Nat} (hn : n < 18446744073709551616) : ∃ w5, Xstore Try.prog 116 (.pointer (some ⟨g, 0, none⟩)) (.int .u64 (n : Int)) w = some (undef, w5) ∧ Xs v N w0 g w5 := by
  obtain ⟨⟨h1, l, ho, hl⟩, h2, h3, k, hk, h4⟩ := h
  obtain ⟨i, hi, hs⟩ := inf116
  refine ⟨_, Xstore_var hi (by rw [hs]; rfl) h4 (by rw [hs]; rfl) (by simp [Value.cells, Value.oneCell']), ⟨?_, l, ?_, hl⟩, h2, h3, n, hn, ?_⟩
  · exact h1.trans (setRow_chg _ _) fun k hk e => by subst e; omega
  · exact (setRow_chg _ _).owns ho fun k hk e => by subst e; exact h3 hk
  · rw [setRow_heap w g _ _ 116 _ h4]; rfl

theorem k73 (h : Xs v N w0 g w) : Brings (Xcall Try.prog (Value.func (Fn.func 73) #[] #[]) #[.pointer (some ⟨g, 0, none⟩)] w) (fun r => Xs v N w0 g r.2 ∧ ∃ k : Nat, k < 18446744073709551616 ∧ r.1 = .int .u64 (k : Int)) := by
  refine e73 ?_
  unfold s73
  have xo : ∀ x y : Int, ∃ n : Nat, n < 18446744073709551616 ∧ Qbin Try.prog .xor 116 (.int .u64 x) (.int .u64 y) = some (.int .u64 (n : Int)) := by
    intro x y
    rw [Qb_xor]
    unfold ixor
    obtain ⟨n, hn, e⟩ := wu (((BitVec.ofInt IntKind.u64.bits x ^^^ BitVec.ofInt IntKind.u64.bits y).toNat : Nat) : Int)
    exact ⟨n, hn, by rw [e]⟩
  obtain ⟨k1, hk1, l1⟩ := (h.bel (Bel.refl w).drew).get
  have s1 : ∃ a : Int, Qbin Try.prog .shl 116 (.int .u64 (k1 : Int)) (.int .u64 13) = some (.int .u64 a) := ⟨_, Qb_shl (by decide)⟩
  obtain ⟨a1, ea1⟩ := s1
  obtain ⟨n1, hn1, en1⟩ := xo k1 a1
  simp only [l1, ea1, en1, go_sem]
  obtain ⟨w1, f1, h1⟩ := (h.bel (Bel.refl w).drew).put hn1
  simp only [f1, go_sem]
  obtain ⟨k2, hk2, l2⟩ := (h1.bel (Bel.refl w1).drew).get
  obtain ⟨a2, ea2⟩ : ∃ a : Int, Qbin Try.prog .shr 116 (.int .u64 (k2 : Int)) (.int .u64 7) = some (.int .u64 a) := ⟨_, Qb_shr (by decide)⟩
  obtain ⟨n2, hn2, en2⟩ := xo k2 a2
  simp only [l2, ea2, en2, go_sem]
  obtain ⟨w2, f2, h2⟩ := (h1.bel (Bel.refl w1).drew).put hn2
  simp only [f2, go_sem]
  obtain ⟨k3, hk3, l3⟩ := (h2.bel (Bel.refl w2).drew).get
  obtain ⟨a3, ea3⟩ : ∃ a : Int, Qbin Try.prog .shl 116 (.int .u64 (k3 : Int)) (.int .u64 17) = some (.int .u64 a) := ⟨_, Qb_shl (by decide)⟩
  obtain ⟨n3, hn3, en3⟩ := xo k3 a3
  simp only [l3, ea3, en3, go_sem]
  obtain ⟨w3, f3, h3⟩ := (h2.bel (Bel.refl w2).drew).put hn3
  obtain ⟨k4, hk4, l4⟩ := h3.get
  simp only [f3, l4, go_sem]
  exact .ret ⟨h3, k4, hk4, rfl⟩
end

theorem Rr.put2 {v : Value} {N : Nat} {w0 w : World} (h : Rr v N w0 w) {i g : Nat} (hi : i < N) (hg : v.ownBlock = some g) (y : Rw) : ∃ w5, Xstore Try.prog 73 (.pointer (some ⟨g, i * 8, none⟩)) y.v w = some (undef, w5) ∧ Rr v N w0 w5 ∧ Chg (fun k => v.ownBlock = some k) w w5 := by
  obtain ⟨h1, l, h2, rfl⟩ := h
  obtain ⟨w5, e5, o5, c5⟩ := own_put (y := y) h2 hg (i := i) hi
  have c6 : Chg (fun k => v.ownBlock = some k) w w5 := c5.mono fun k _ hk => by subst hk; exact hg
  exact ⟨w5, e5, ⟨h1.trans c6 fun _ _ h => h, _, o5, by simp⟩, c6⟩
theorem Xs.swap {v : Value} {N g i j : Nat} {w0 w : World} {β : Type} {Q : β → Prop} (h : Xs v N w0 g w) (hi : i < N) (hj : j < N) {F : Value × World → Option β} (hF : ∀ w', Xs v N w0 g w' → Brings (F (undef, w')) Q) :
    Brings ((QindexAddr Try.prog 62 v (.int .i64 (j : Int)) w).bind fun a => (Qload Try.prog 73 a w).bind fun y => (QindexAddr Try.prog 62 v (.int .i64 (i : Int)) w).bind fun b => (Qload Try.prog 73 b w).bind fun x =>
      (QindexAddr Try.prog 62 v (.int .i64 (i : Int)) w).bind fun c => (Xstore Try.prog 73 c y w).bind fun r => (QindexAddr Try.prog 62 v (.int .i64 (j : Int)) r.2).bind fun d => (Xstore Try.prog 73 d x r.2).bind F) Q := by
  obtain ⟨hr, h2, h3, k, hk, h4⟩ := h
  obtain ⟨g1, x, hg, ix, lx⟩ := hr.at_ hi
  obtain ⟨g2, y, hg2, iy, ly⟩ := hr.at_ hj
  obtain rfl : g2 = g1 := Option.some.inj (hg2.symm.trans hg)
  obtain ⟨w5, e5, r5, c5⟩ := hr.put2 hi hg y
  obtain ⟨w6, e6, r6, c6⟩ := r5.put2 hj hg x
  simp only [ix, iy, lx, ly, e5, e6, Option.bind_some]
  exact hF _ ⟨r6, h2, h3, k, hk, c6.at_ (c5.at_ h4 h3) h3⟩

theorem k62 {v : Value} {N a b : Nat} {w0 w : World} (h : Rr v N w0 w) (hN : N < 256) (hab : a < b) (hb : b ≤ N) :
    Brings (Xcall Try.prog (Value.func (Fn.func 62) #[] #[]) #[v, .int .i64 (a : Int), .int .i64 (b : Int), f30V] w) (fun r => Rr v N w0 r.2) := by
  refine e62 ?_
  unfold s62
  have e1 := wi (x := (b : Int) - (a : Int)) (n := b - a) (by omega) (by omega)
  simp only [e1, go_sem]
  generalize hn : b - a = n
  refine .cond (fun c => ?_) (fun _ => .ret h)
  have c : 8 ≤ n := by have := of_decide_eq_true c; omega
  have cv : Qconv Try.prog 3 116 (.int .i64 (n : Int)) = some (.int .u64 (n : Int)) := by rw [Qconv_int (k := .u64) (by kernel_rfl), wrap_u rfl (show n < 2 ^ 64 by omega)]
  simp only [cv, Xalloc_eq (zero116 w), go_sem]
  have X : Xs v N w0 w.heap.size (w.alloc (.cells #[.int .u64 0] 116)) := ⟨h.bel ((Bel.refl w).alloc _), h.size, fun e => Nat.lt_irrefl _ (h.lt e), 0, by decide, (MapKept.heap_alloc w _).1⟩
  obtain ⟨w1, f1, h1⟩ := X.put (n := n) (by omega)
  generalize w.heap.size = g at *
  have f1' : Xstore Try.prog 116 (.pointer (some ⟨g, 0, none⟩)) (.int .u64 (n : Int)) (w.alloc (.cells (Value.int .u64 0).cells 116)) = some (undef, w1) := f1
  simp only [f1, f1', go_sem]
  refine (k72 (w := w1) (n := n) (by omega) (by omega)).bind ?_
  rintro _ ⟨p, hp1, hp2, rfl⟩
  have e2 := wi (x := ((n / 4 : Nat) : Int) * 2) (n := n / 4 * 2) (by omega) (by omega)
  have e3 := wi (x := (a : Int) + ((n / 4 * 2 : Nat) : Int)) (n := a + n / 4 * 2) (by omega) (by omega)
  have e4 := wi (x := ((a + n / 4 * 2 : Nat) : Int) - 1) (n := a + n / 4 * 2 - 1) (by omega) (by omega)
  have e5 := wi (x := ((a + n / 4 * 2 : Nat) : Int) + 1) (n := a + n / 4 * 2 + 1) (by omega) (by omega)
  simp only [q4 (n := n) (by omega), e2, e3, e4, go_sem]
  refine Brings.loop (fun m xs w' => ∃ i : Nat, xs = [v, .int .i64 (a : Int), .int .i64 (n : Int), .pointer (some ⟨g, 0, none⟩), .int .u64 (p : Int), .int .i64 (i : Int)] ∧ m = a + n / 4 * 2 + 2 - i ∧ Xs v N w0 g w') ?_ _ _ _ ⟨_, rfl, rfl, h1⟩
  clear h1 f1 f1' X
  rintro m xs w2 ⟨i, rfl, rfl, h2⟩
  simp only [s62B0, q4 (n := n) (by omega), e2, e3, e5, go_sem]
  refine .cond (fun c2 => ?_) (fun _ => .ret (.inr ⟨by simp, .ret h2.1⟩))
  have c2 : i ≤ a + n / 4 * 2 + 1 := by have := of_decide_eq_true c2; omega
  refine (k73 h2).bind ?_
  rintro ⟨_, w3⟩ ⟨h3, k, hk, e⟩
  simp only at e h3
  subst e
  have e6 : IntKind.u64.wrap ((p : Int) - 1) = ((p - 1 : Nat) : Int) := by
    rw [show (p : Int) - 1 = ((p - 1 : Nat) : Int) by omega, wrap_u rfl (show p - 1 < 2 ^ 64 by omega)]
  have e7 : iand .u64 (k : Int) ((p - 1 : Nat) : Int) = ((k &&& (p - 1) : Nat) : Int) := iand_u rfl (show k < 2 ^ 64 from hk) (show p - 1 < 2 ^ 64 by omega)
  have hand : k &&& (p - 1) ≤ p - 1 := Nat.and_le_right
  generalize k &&& (p - 1) = o at *
  have cv2 : Qconv Try.prog 93 3 (.int .u64 (o : Int)) = some (.int .i64 (o : Int)) := by rw [Qconv_int (k := .i64) (by kernel_rfl), wrap_i64 (by omega) (by omega)]
  have e9 := wi (x := (i : Int) + 1) (n := i + 1) (by omega) (by omega)
  have M : ∀ o : Nat, o < n → Brings (s62M1 v (.int .i64 (a : Int)) (.int .i64 (n : Int)) (.pointer (some ⟨g, 0, none⟩)) (.int .u64 (p : Int)) (.int .i64 (i : Int)) (.int .i64 (o : Int)) w3) (fun r => (r.1 = Exit.normal ∧ ∃ m, m < a + n / 4 * 2 + 2 - i ∧ ∃ i : Nat, r.2.1 = [v, .int .i64 (a : Int), .int .i64 (n : Int), .pointer (some ⟨g, 0, none⟩), .int .u64 (p : Int), .int .i64 (i : Int)] ∧ m = a + n / 4 * 2 + 2 - i ∧ Xs v N w0 g r.2.2) ∨ (r.1 ≠ Exit.normal ∧ Brings (s62R0 r.1 r.2.1 r.2.2) fun r => Rr v N w0 r.2)) := by
    intro o ho
    unfold s62M1
    have e8 := wi (x := (a : Int) + (o : Int)) (n := a + o) (by omega) (by omega)
    simp only [e8, go_sem]
    refine (h3.bel (Bel.refl w3).drew).swap (by omega) (by omega) fun w6 h6 => ?_
    simp only [e9, go_sem]
    exact .ret (.inl ⟨rfl, _, by omega, i + 1, rfl, rfl, h6⟩)
  simp only [e6, e7, cv2, go_sem]
  refine .cond (fun c3 => ?_) (fun c3 => ?_)
  · have c3 : n ≤ o := by have := of_decide_eq_true c3; omega
    have e10 := wi (x := (o : Int) - (n : Int)) (n := o - n) (by omega) (by omega)
    simp only [e10, go_sem]
    exact M _ (by omega)
  · have c3 : o < n := by have := of_decide_eq_false c3; omega
    exact M _ c3

end Go.Proofs.Ytcibkmahibnjeaa
