/- The law of sixty tuples. -/
import Derived.Test.YtcibkmahibnjeaaTa23
import Derived.Test.YtcibkmahibnjeaaFo
namespace Go.Proofs.Ytcibkmahibnjeaa
open Go Go.Ev Go.RowKit
open Go.Proofs

theorem t58 : NumTy Try.prog 58 23 .u16 := ⟨by kernel_rfl, by kernel_rfl, ⟨(Try.prog.info? 23).get (by kernel_rfl), by kernel_rfl, by kernel_rfl, by kernel_rfl, by decide +kernel⟩, by kernel_rfl, fun _ _ => by kernel_rfl, fun _ => by kernel_rfl⟩
theorem t59 : NumTy Try.prog 59 5 .u8 := ⟨by kernel_rfl, by kernel_rfl, ⟨(Try.prog.info? 5).get (by kernel_rfl), by kernel_rfl, by kernel_rfl, by kernel_rfl, by decide +kernel⟩, by kernel_rfl, fun _ _ => by kernel_rfl, fun _ => by kernel_rfl⟩
def portT (p : Int) : Tup := ⟨17, 0, 0, p, 0⟩
theorem build37p (p : Int) (w : World) : Qbuild Try.prog 37 #[(0, .int .u8 17), (3, .int .u16 p)] w = some (portT p).v := by kernel_rfl
theorem bool4 : Try.prog.underlying 4 = some .bool := by kernel_rfl
theorem und30x : Try.prog.underlying 30 = some (.slice 37) := by kernel_rfl

/-- What holds ahead of a round. -/
structure At (w w' : World) (a : Nat) (rv : Value) (bv : List Value) (seq : Int) (L : List Rw) (i : Nat) : Prop where
  tb : Tb w' a rv bv 64 seq L
  bel : Bel w w'
  own : ∀ k, Foot a rv bv k → w.heap.size ≤ k
  s0 : 0 ≤ seq
  s1 : seq ≤ i
  len : L.length ≤ i
  till : ∀ x ∈ L, x.till ≤ 255

theorem l10 {w : World} {s t : Value} {ps ts : List Int} (hv : View (nc .u16) 1 w s ps) (ht : View (nc .u8) 1 w t ts) (hT : ∀ m ∈ ts, 0 ≤ m ∧ m < 256) : Brings (s10 s t w) (Yes w) := by
  unfold s10
  refine k26.bind ?_
  rintro ⟨_, w1⟩ ⟨b1, ⟨h, _⟩ | ⟨_, a, rv, bv, e, T1, F1⟩⟩
  · omega
  simp only at b1 e T1
  subst e
  simp only
  refine Brings.loop (fun m xs w' => ∃ (i : Nat) (rv : Value) (bv : List Value) (seq : Int) (L : List Rw), xs = [s, t, .bool false, .pointer (some ⟨a, 0, none⟩), .int .i64 (L.length : Int), .int .i64 (i : Int)] ∧ i ≤ 60 ∧ m = 60 - i ∧ At w w' a rv bv seq L i) ?_ 60 _ _
    ⟨0, rv, bv, 0, [], rfl, by omega, rfl, T1, b1, F1, by omega, by omega, by simp, by simp⟩
  clear T1 F1 b1 w1 rv bv
  rintro m xs w1 ⟨i, rv, bv, seq, L, rfl, hi, rfl, A⟩
  have V := hv.bel A.bel
  have U := ht.bel A.bel
  have hlen := A.len
  simp only [s10B0, t58.len V, t59.len U, go_sem]
  -- behind the loop
  have fin : Brings (s10R0 (.exit 0) [s, t, .bool false, .pointer (some ⟨a, 0, none⟩), .int .i64 (L.length : Int), .int .i64 (i : Int)] w1) (Yes w) := by
    simp only [s10R0]
    refine (k13w (now := 255) A.tb (by omega)).bind ?_
    rintro ⟨v, w2⟩ ⟨ks, hk, F1, F2, F3⟩
    simp only at F1 F2 F3 ⊢
    have hfl : ((conc L).filter (dueP 255)) = conc L := List.filter_eq_self.2 fun x hx => by
      have := A.till x (mem_conc.1 hx)
      simpa [dueP] using this
    rw [hfl, conc_len] at hk
    refine k26.bind ?_
    rintro ⟨_, w3⟩ ⟨b3, ⟨h, _⟩ | ⟨_, a2, rv2, bv2, e, T3, G3⟩⟩
    · omega
    simp only at b3 e T3 ⊢
    subst e
    refine (k16 ((A.tb.bel F1).bel b3)).bind ?_
    rintro _ rfl
    have V2 := (View.of_owns F2 (fun _ _ => rfl) : View Tup.cs 5 w2 v ks).bel b3
    simp only [go_sem, beq_self_eq_true]
    rw [V2.len und30x, hk]
    simp only [go_sem, beq_self_eq_true, build37z]
    refine (k17 (k := Tup.zero) (id := 1) (till := 1) T3 ⟨by omega, by omega, by simp⟩).bind ?_
    have hp : putM 1 0 [] Tup.zero 1 1 = (0, 1, [⟨keyM Tup.zero, 1, 1, 1⟩]) := by
      unfold putM
      rw [if_neg (by decide), if_neg (by simp [hasK]), if_neg (by simp)]
      rfl
    rw [hp]
    rintro ⟨_, w4⟩ ⟨e, c4, bv3, T4, _⟩
    simp only at e c4 T4 ⊢
    subst e
    simp only [go_sem, beq_self_eq_true]
    refine (k16 T4).bind ?_
    rintro _ rfl
    simp only [go_sem, List.length_cons, List.length_nil]
    refine .ret ⟨rfl, ?_⟩
    exact (((A.bel.trans F1).trans b3).thenChg c4).bel fun k hk hs => by have := G3 k hs; have := (A.bel.trans F1).size; omega
  by_cases c : i < ps.length ∧ i < ts.length ∧ i < 60
  · obtain ⟨c1, c2, c3⟩ := c
    have d1 : decide ((i : Int) < (ps.length : Int)) = true := by rw [decide_eq_true_iff]; omega
    have d2 : decide ((i : Int) < (ts.length : Int)) = true := by rw [decide_eq_true_iff]; omega
    have d3 : decide ((i : Int) < 60) = true := by rw [decide_eq_true_iff]; omega
    obtain ⟨p, pa, hp, ip, lp⟩ := t58.get V c1
    obtain ⟨m, ma, hm, im, lm⟩ := t59.get U c2
    have hm2 := hT m (List.mem_of_getElem? hm)
    have B := local_bel w1 (.cells Tup.zero.cs.toArray 37) (portT p).cs.toArray
    have A0 := local_at w1 (portT p).cs Tup.zero.cs 37
    simp only [d1, t59.len U, d2, d3, ip, lp, build37p, alloc37, put37, go_sem]
    simp only [Tup.all A0, go_sem]
    have hs1 := A.bel.size
    generalize (w1.alloc (.cells Tup.zero.cs.toArray 37)).setRow w1.heap.size (portT p).cs.toArray = w2 at A0 B
    generalize w1.heap.size = q at A0 hs1
    refine (k15 (k := portT p) (A.tb.bel B) (by omega)).bind ?_
    rintro ⟨_, w3⟩ ⟨e, b3⟩
    simp only at e b3 ⊢
    subst e
    have A3 : CellsAt (portT p).cs w3.drew q 0 := (A0.bel b3).bel (Bel.refl w3).drew
    have U3 : Qload Try.prog 5 (.pointer (some ma)) w3.drew = some (.int .u8 m) := by
      obtain ⟨m', ma', hm', im', lm'⟩ := t59.get (((ht.bel A.bel).bel B).bel (b3.trans (Bel.refl w3).drew)) c2
      have e1 : m' = m := Option.some.inj (hm'.symm.trans hm)
      have e2 := (im' w3).symm.trans (im w3)
      have e3 : ma' = ma := Option.some.inj (Value.pointer.inj (Option.some.inj e2))
      subst e1 e3
      exact lm'
    have cv : Qconv Try.prog 5 3 (.int .u8 m) = some (.int .i64 m) := by rw [Qconv_int (k := .i64) (by kernel_rfl), wrap_i64 (by omega) (by omega)]
    simp only [Tup.all A3, im, U3, cv, go_sem]
    have T3 := ((A.tb.bel B).bel b3).bel (Bel.refl w3).drew
    refine (k17 (k := portT p) (id := (i : Int)) (till := m) T3 ⟨A.s0, by have := A.s1; omega, by omega⟩).bind ?_
    have may : mayT m = true := by simp [mayT]; omega
    have bb : Bel w w3.drew := (A.bel.trans B).trans (b3.trans (Bel.refl w3).drew)
    have e1 : IntKind.i64.wrap ((i : Int) + 1) = ((i + 1 : Nat) : Int) := wi (by omega) (by omega)
    have e2 : IntKind.i64.wrap ((L.length : Int) + 1) = ((L.length + 1 : Nat) : Int) := wi (by omega) (by omega)
    rintro ⟨_, w4⟩ ⟨e, c4, bv4, T4, F4⟩
    simp only at e c4 T4 F4 ⊢
    subst e
    have b4 : Bel w w4 := (bb.thenChg c4).bel fun k hk hs => by have := A.own k hs; omega
    have o4 : ∀ k, Foot a rv bv4 k → w.heap.size ≤ k := fun k hk => by
      rcases F4 k hk with h | h
      · exact A.own k h
      · have := bb.size; omega
    rw [get_has]
    by_cases hh : hasK L (keyM (portT p)) = true
    · have hp : putM 64 seq L (portT p) i m = (10, seq, L) := by
        unfold putM
        rw [if_neg (by simp [may]), if_pos hh]
      rw [hp] at T4 ⊢
      simp only [hh, beq_self_eq_true, Qb_neqB bool4, go_sem, bne_self_eq_false]
      simp only [e1, go_sem]
      exact .ret (.inl ⟨rfl, _, by omega, i + 1, rv, bv4, seq, L, rfl, by omega, rfl, T4, b4, o4, A.s0, by have := A.s1; omega, by omega, A.till⟩)
    · have hh : hasK L (keyM (portT p)) = false := by simpa using hh
      have hp : putM 64 seq L (portT p) i m = (0, seq + 1, L ++ [⟨keyM (portT p), i, m, seq + 1⟩]) := by
        unfold putM
        rw [if_neg (by simp [may]), if_neg (by simp [hh]), if_neg (by omega)]
      rw [hp] at T4 ⊢
      have n1 : ((0 : Int) == 10) = false := by decide
      simp only [hh, n1, Qb_neqB bool4, go_sem, bne_self_eq_false]
      simp only [e1, e2, go_sem]
      refine .ret (.inl ⟨rfl, _, by omega, i + 1, rv, bv4, seq + 1, L ++ [⟨keyM (portT p), i, m, seq + 1⟩], ?_, by omega, rfl, T4, b4, o4, by have := A.s0; omega, by have := A.s1; omega, by simp; omega, fun x hx => ?_⟩)
      · rw [List.length_append]; rfl
      · rcases List.mem_append.1 hx with h | h
        · exact A.till x h
        · simp only [List.mem_singleton] at h
          subst h
          show m ≤ 255
          omega
  · have stop : Brings (some (Exit.exit 0, [s, t, Value.bool false, .pointer (some ⟨a, 0, none⟩), .int .i64 (L.length : Int), .int .i64 (i : Int)], w1)) (fun r => (r.1 = Exit.normal ∧ ∃ m, m < 60 - i ∧ ∃ (i : Nat) (rv : Value) (bv : List Value) (seq : Int) (L : List Rw), r.2.1 = [s, t, .bool false, .pointer (some ⟨a, 0, none⟩), .int .i64 (L.length : Int), .int .i64 (i : Int)] ∧ i ≤ 60 ∧ m = 60 - i ∧ At w r.2.2 a rv bv seq L i) ∨ (r.1 ≠ Exit.normal ∧ Brings (s10R0 r.1 r.2.1 r.2.2) (Yes w))) := .ret (.inr ⟨by simp, fin⟩)
    by_cases c1 : i < ps.length
    · have d1 : decide ((i : Int) < (ps.length : Int)) = true := by rw [decide_eq_true_iff]; omega
      by_cases c2 : i < ts.length
      · have d2 : decide ((i : Int) < (ts.length : Int)) = true := by rw [decide_eq_true_iff]; omega
        have d3 : decide ((i : Int) < 60) = false := by rw [decide_eq_false_iff_not]; omega
        simp only [d1, t59.len U, d2, d3, go_sem]
        exact stop
      · have d2 : decide ((i : Int) < (ts.length : Int)) = false := by rw [decide_eq_false_iff_not]; omega
        simp only [d1, t59.len U, d2, go_sem]
        exact stop
    · have d1 : decide ((i : Int) < (ps.length : Int)) = false := by rw [decide_eq_false_iff_not]; omega
      simp only [d1, go_sem]
      exact stop

set_option maxRecDepth 100000 in
theorem nums58 {v : Value} {n : Nat} {w : World} {r : Reach} {b : Nat} (ho : Value.okWide Try.prog w r b 58 v) (h : Okc Try.prog w n 58 v.cells.toList) : ∃ l : List Int, View (nc .u16) 1 w v l := by
  obtain ⟨l, hl, _⟩ := view_int (k := .u16) t58.und t58.el (by kernel_rfl) (cells_slice t58.und ho) h
  exact ⟨l, hl⟩
set_option maxRecDepth 100000 in
theorem nums59 {v : Value} {n : Nat} {w : World} {r : Reach} {b : Nat} (ho : Value.okWide Try.prog w r b 59 v) (h : Okc Try.prog w n 59 v.cells.toList) : ∃ l : List Int, View (nc .u8) 1 w v l ∧ ∀ m ∈ l, 0 ≤ m ∧ m < 256 := by
  obtain ⟨l, hl, hw⟩ := view_int (k := .u8) t59.und t59.el (by kernel_rfl) (cells_slice t59.und ho) h
  refine ⟨l, hl, fun m hm => ?_⟩
  obtain ⟨n, rfl, hn⟩ := nat8 (hw m hm)
  exact ⟨by omega, by omega⟩
set_option maxRecDepth 100000 in
theorem law10 {n0 n1 : Nat} {v0 v1 : Value} {w : World} {r0 r1 : Reach} {b0 b1 : Nat} (ho0 : Value.okWide Try.prog w r0 b0 58 v0) (h0 : Okc Try.prog w n0 58 v0.cells.toList) (ho1 : Value.okWide Try.prog w r1 b1 59 v1) (h1 : Okc Try.prog w n1 59 v1.cells.toList) :
    Calls Try.prog 10 #[v0, v1] w fun e w' => e = .returned (.bool true) ∧ Below w.heap.size w w' := by
  obtain ⟨ps, hv⟩ := nums58 ho0 h0
  obtain ⟨ts, ht, hT⟩ := nums59 ho1 h1
  exact law_of (l10 hv ht hT) fun _ => c10
end Go.Proofs.Ytcibkmahibnjeaa
