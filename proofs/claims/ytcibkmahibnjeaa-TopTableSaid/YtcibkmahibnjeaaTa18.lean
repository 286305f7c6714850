/- The library's sort, its pivot and its shuffle. -/
import Derived.Test.YtcibkmahibnjeaaTa17
namespace Go.Proofs.Ytcibkmahibnjeaa
open Go Go.Ev Go.RowKit
open Go.Proofs

theorem own_lt {w : World} {v : Value} {l : List Rw} {g : Nat} (ho : Own w v l) (hg : v.ownBlock = some g) : g < w.heap.size := by
  obtain ⟨_, ⟨rfl, _⟩ | ⟨g', cap, cur, rfl, hb, hcur, _⟩⟩ := ho
  · cases hg
  · simp only [Value.ownBlock, Option.some.injEq] at hg
    subst hg
    exact (Array.getElem?_eq_some_iff.1 hcur).1
theorem Rr.lt {v : Value} {N g : Nat} {w0 w : World} (h : Rr v N w0 w) (hg : v.ownBlock = some g) : g < w.heap.size := by
  obtain ⟨_, l, ho, _⟩ := h
  exact own_lt ho hg
theorem Rr.size {v : Value} {N : Nat} {w0 w : World} (h : Rr v N w0 w) : w0.heap.size ≤ w.heap.size := h.1.size
theorem zero3s (w : World) : (zeroValue 3).run Try.prog w = .ok (.int .i64 0) w := by kernel_rfl
theorem Rr.sw {v : Value} {N : Nat} {w0 w : World} (h : Rr v N w0 w) : Sw v N w0 w.heap.size (w.alloc (.cells #[.int .i64 0] 3)) :=
  ⟨h.bel ((Bel.refl w).alloc _), h.size, fun e => Nat.lt_irrefl _ (h.lt e), 0, (MapKept.heap_alloc w _).1⟩

theorem k63 {v : Value} {N a b : Nat} {w0 w : World} (h : Rr v N w0 w) (hN : N ≤ 100000) (hab : a < b) (hb : b ≤ N) :
    Brings (Xcall Try.prog (Value.func (Fn.func 63) #[] #[]) #[v, .int .i64 (a : Int), .int .i64 (b : Int), f30V] w) (fun r => Rr v N w0 r.2 ∧ ∃ (m : Nat) (k : Int), r.1 = .tuple #[.int .i64 (m : Int), .int .i64 k] ∧ a ≤ m ∧ m < b) := by
  refine e63 ?_
  unfold s63
  have w1 := wi (x := (b : Int) - (a : Int)) (n := b - a) (by omega) (by omega)
  have S := h.sw
  simp only [w1, Xalloc_eq (zero3s w), go_sem]
  generalize w.alloc (.cells #[.int .i64 0] 3) = w2 at S
  generalize w.heap.size = g at S
  generalize hn : b - a = n
  have T : ∀ (m : Nat) w3, a ≤ m → m < b → Sw v N w0 g w3 → Brings (s63M0 (.pointer (some ⟨g, 0, none⟩)) (.int .i64 (m : Int)) w3) (fun r => Rr v N w0 r.2 ∧ ∃ (m : Nat) (k : Int), r.1 = .tuple #[.int .i64 (m : Int), .int .i64 k] ∧ a ≤ m ∧ m < b) := by
    intro m w3 h1 h2 h3
    obtain ⟨k, hk⟩ := h3.get
    unfold s63M0
    simp only [hk, go_sem]
    refine .cond (fun _ => .ret ⟨h3.1, m, _, rfl, h1, h2⟩) fun _ => ?_
    exact .cond (fun _ => .ret ⟨h3.1, m, _, rfl, h1, h2⟩) fun _ => .ret ⟨h3.1, m, _, rfl, h1, h2⟩
  have e1 := wi (x := ((n / 4 : Nat) : Int) * 1) (n := n / 4) (by omega) (by omega)
  have e2 := wi (x := ((n / 4 : Nat) : Int) * 2) (n := n / 4 * 2) (by omega) (by omega)
  have e3 := wi (x := ((n / 4 : Nat) : Int) * 3) (n := n / 4 * 3) (by omega) (by omega)
  have f1 := wi (x := (a : Int) + ((n / 4 : Nat) : Int)) (n := a + n / 4) (by omega) (by omega)
  have f2 := wi (x := (a : Int) + ((n / 4 * 2 : Nat) : Int)) (n := a + n / 4 * 2) (by omega) (by omega)
  have f3 := wi (x := (a : Int) + ((n / 4 * 3 : Nat) : Int)) (n := a + n / 4 * 3) (by omega) (by omega)
  simp only [q4 (n := n) (by omega), e1, e2, e3, f1, f2, f3, go_sem]
  refine .cond (fun c => ?_) (fun c => ?_)
  · have c : 8 ≤ n := by have := of_decide_eq_true c; omega
    refine .cond (fun c2 => ?_) (fun c2 => ?_)
    · have c2 : 50 ≤ n := by have := of_decide_eq_true c2; omega
      refine (k74 S hN (i := a + n / 4) (by omega) (by omega)).bind ?_
      rintro ⟨_, w3⟩ ⟨h3, m1, e, hm1, hm1'⟩
      simp only at e h3; subst e
      refine (k74 h3 hN (i := a + n / 4 * 2) (by omega) (by omega)).bind ?_
      rintro ⟨_, w4⟩ ⟨h4, m2, e, hm2, hm2'⟩
      simp only at e h4; subst e
      refine (k74 h4 hN (i := a + n / 4 * 3) (by omega) (by omega)).bind ?_
      rintro ⟨_, w5⟩ ⟨h5, m3, e, hm3, hm3'⟩
      simp only at e h5; subst e
      refine (k75 h5 (i := m1) (j := m2) (k := m3) (by omega) (by omega) (by omega)).bind ?_
      rintro ⟨_, w6⟩ ⟨h6, m, e, hm⟩
      simp only at e h6; subst e
      exact T m w6 (by omega) (by omega) h6
    · refine (k75 S (i := a + n / 4) (j := a + n / 4 * 2) (k := a + n / 4 * 3) (by omega) (by omega) (by omega)).bind ?_
      rintro ⟨_, w6⟩ ⟨h6, m, e, hm⟩
      simp only at e h6; subst e
      exact T m w6 (by omega) (by omega) h6
  · exact T _ _ (by omega) (by omega) S

def lenS : ByteArray := { data := (List.toArray (List.append (List.append [0, 1, 2, 2, 3, 3, 3, 3, 4, 4, 4, 4, 4, 4, 4, 4, 5, 5, 5, 5, 5, 5, 5, 5, 5, 5, 5, 5, 5, 5, 5, 5, 6, 6, 6, 6, 6, 6, 6, 6, 6, 6, 6, 6, 6, 6, 6, 6, 6, 6, 6, 6, 6, 6, 6, 6, 6, 6, 6, 6, 6, 6, 6, 6] [7, 7, 7, 7, 7, 7, 7, 7, 7, 7, 7, 7, 7, 7, 7, 7, 7, 7, 7, 7, 7, 7, 7, 7, 7, 7, 7, 7, 7, 7, 7, 7, 7, 7, 7, 7, 7, 7, 7, 7, 7, 7, 7, 7, 7, 7, 7, 7, 7, 7, 7, 7, 7, 7, 7, 7, 7, 7, 7, 7, 7, 7, 7, 7]) (List.append [8, 8, 8, 8, 8, 8, 8, 8, 8, 8, 8, 8, 8, 8, 8, 8, 8, 8, 8, 8, 8, 8, 8, 8, 8, 8, 8, 8, 8, 8, 8, 8, 8, 8, 8, 8, 8, 8, 8, 8, 8, 8, 8, 8, 8, 8, 8, 8, 8, 8, 8, 8, 8, 8, 8, 8, 8, 8, 8, 8, 8, 8, 8, 8] [8, 8, 8, 8, 8, 8, 8, 8, 8, 8, 8, 8, 8, 8, 8, 8, 8, 8, 8, 8, 8, 8, 8, 8, 8, 8, 8, 8, 8, 8, 8, 8, 8, 8, 8, 8, 8, 8, 8, 8, 8, 8, 8, 8, 8, 8, 8, 8, 8, 8, 8, 8, 8, 8, 8, 8, 8, 8, 8, 8, 8, 8, 8, 8]))) }
theorem len_tab : ∀ n : Fin 256, 1 ≤ n.val → n.val < 2 ^ (lenS.data.toList.getD n.val 0).toNat ∧ 2 ^ (lenS.data.toList.getD n.val 0).toNat ≤ 2 * n.val := by decide +kernel
theorem len_size : lenS.size = 256 := by decide +kernel
theorem m69 (s0 s2 : Value) (w : World) : s69M2 s0 s2 w = (Qconv Try.prog 102 5 s0).bind fun a => (Qindex Try.prog 9 (Go.Value.string lenS) a w).bind fun b => (Qconv Try.prog 5 3 b).bind fun c => (Qbin Try.prog Go.BinOp.add 3 s2 c).bind fun d => some (d, w) := rfl

theorem k51x {w : World} {n : Nat} (hn : n < 256) (h1 : 1 ≤ n) : Brings (Xcall Try.prog (Value.func (Fn.func 51) #[] #[]) #[.int .u64 (n : Int)] w) (fun r => ∃ m : Nat, n < 2 ^ m ∧ 2 ^ m ≤ 2 * n ∧ r = (.int .i64 (m : Int), w)) := by
  have h69 : Brings (Xcall Try.prog (Value.func (Fn.func 69) #[] #[]) #[.int .u64 (n : Int)] w) (fun r => ∃ m : Nat, n < 2 ^ m ∧ 2 ^ m ≤ 2 * n ∧ r = (.int .i64 (m : Int), w)) := by
    refine e69 ?_
    unfold s69
    have d1 : decide ((4294967296 : Int) ≤ (n : Int)) = false := by rw [decide_eq_false_iff_not]; omega
    have d2 : decide ((65536 : Int) ≤ (n : Int)) = false := by rw [decide_eq_false_iff_not]; omega
    have d3 : decide ((256 : Int) ≤ (n : Int)) = false := by rw [decide_eq_false_iff_not]; omega
    simp only [go_sem, d1]
    unfold s69M0
    simp only [go_sem, d2]
    unfold s69M1
    simp only [go_sem, d3]
    rw [m69]
    have cv : Qconv Try.prog 102 5 (.int .u64 (n : Int)) = some (.int .u8 (n : Int)) := by rw [Qconv_int (k := .u8) (by kernel_rfl), wrap_u rfl (show n < 256 from hn)]
    simp only [cv, go_sem]
    have hs : n < lenS.size := by rw [len_size]; exact hn
    rw [Qindex_str (by kernel_rfl) hs]
    have key := len_tab ⟨n, hn⟩ h1
    have eb : lenS.data.toList.getD n 0 = lenS[n]'hs := by
      rw [List.getD_eq_getElem?_getD, Array.getElem?_toList, Array.getElem?_eq_getElem (show n < lenS.data.size from hs)]
      rfl
    simp only [eb] at key
    have hm : (lenS[n]'hs).toNat < 256 := UInt8.toNat_lt _
    generalize (lenS[n]'hs).toNat = m at key hm
    have cv2 : Qconv Try.prog 5 3 (.int .u8 (m : Int)) = some (.int .i64 (m : Int)) := by rw [Qconv_int (k := .i64) (by kernel_rfl), wrap_i64 (by omega) (by omega)]
    simp only [cv2, go_sem]
    rw [show IntKind.i64.wrap (0 + (m : Int)) = (m : Int) by rw [wrap_i64 (by omega) (by omega)]; omega]
    exact .ret ⟨m, key.1, key.2, rfl⟩
  refine e51 ?_
  unfold s51
  simp only [go_sem]
  refine h69.bind ?_
  rintro _ ⟨m, hm, hm2, rfl⟩
  exact .ret ⟨m, hm, hm2, rfl⟩

theorem k72 {w : World} {n : Nat} (hn : n < 256) (h1 : 1 ≤ n) : Brings (Xcall Try.prog (Value.func (Fn.func 72) #[] #[]) #[.int .i64 (n : Int)] w) (fun r => ∃ p : Nat, n < p ∧ p ≤ 2 * n ∧ r = (.int .u64 (p : Int), w)) := by
  refine e72 ?_
  unfold s72
  have cv : Qconv Try.prog 3 93 (.int .i64 (n : Int)) = some (.int .u64 (n : Int)) := by rw [Qconv_int (k := .u64) (by kernel_rfl), wrap_u rfl (show n < 2 ^ 64 by omega)]
  simp only [cv, go_sem]
  refine (k51x hn h1).bind ?_
  rintro _ ⟨m, hm, hm2, rfl⟩
  have hm9 : m < 10 := by
    rcases Nat.lt_or_ge m 10 with h | h
    · exact h
    · have : 2 ^ 10 ≤ 2 ^ m := Nat.pow_le_pow_right (by decide) h
      omega
  have sh : Qbin Try.prog .shl 93 (.int .u64 1) (.int .i64 (m : Int)) = some (.int .u64 ((2 ^ m : Nat) : Int)) := by
    rw [Qb_shl (by omega)]
    have : min (m : Int).toNat IntKind.u64.bits = m := by show min _ 64 = m; omega
    rw [this, show (1 : Int) * 2 ^ m = ((2 ^ m : Nat) : Int) by simp, wrap_u rfl (show 2 ^ m < 2 ^ 64 from Nat.pow_lt_pow_right (by decide) (by omega))]
  simp only [sh, go_sem]
  exact .ret ⟨2 ^ m, hm, hm2, rfl⟩

end Go.Proofs.Ytcibkmahibnjeaa
