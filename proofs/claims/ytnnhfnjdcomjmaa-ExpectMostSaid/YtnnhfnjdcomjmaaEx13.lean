/- Laws: what is expected comes once; as many as the limits. -/
import Derived.Test.YtnnhfnjdcomjmaaEx12
namespace Go.Proofs.Ytnnhfnjdcomjmaa
open Go Go.Ev Go.RowKit
open Go.Proofs

theorem open55 {w : World} {r : Reach} {b n : Nat} {v : Value} (hw : Value.okWide Try.prog w r b 55 v) (h : Okc Try.prog w n 55 v.cells.toList) : ∃ x y : Int, v = .agg #[.int .u32 x, .int .u32 y] := by
  obtain ⟨cs, rfl⟩ : ∃ cs, v = .agg cs := by
    simp only [Value.okWide, (by kernel_rfl : Try.prog.underlying 55 = some (.array 2 22))] at hw
    obtain ⟨cs, h1, _⟩ := hw
    exact ⟨cs, h1⟩
  cases n with
  | zero => exact h.elim
  | succ n =>
    unfold Okc at h
    rw [(by kernel_rfl : Try.prog.underlying 55 = some (.array 2 22))] at h
    obtain ⟨hl, hf⟩ := h
    rw [show Try.prog.cellsOf 55 = 2 from by kernel_rfl] at hl
    have h0 := hf 0 (by decide)
    have h1 := hf 1 (by decide)
    rw [show Try.prog.cellsOf 22 = 1 from by kernel_rfl] at h0 h1
    have hl' : (Value.agg cs).cells.toList.length = 2 := hl
    obtain ⟨l⟩ := cs
    match l, hl' with
    | [a, b], _ =>
      obtain ⟨x, hx, _⟩ := okc_int (k := .u32) (by kernel_rfl) h0
      obtain ⟨y, hy, _⟩ := okc_int (k := .u32) (by kernel_rfl) h1
      exact ⟨x, y, by rw [hx, hy]⟩

theorem at55x0 (q : Nat) (w : World) : QindexAddr Try.prog 55 (.pointer (some ⟨q, 0, none⟩)) (.int .i64 0) w = some (.pointer (some ⟨q, 0, none⟩)) := by kernel_rfl
theorem at55x1 (q : Nat) (w : World) : QindexAddr Try.prog 55 (.pointer (some ⟨q, 0, none⟩)) (.int .i64 1) w = some (.pointer (some ⟨q, 1, none⟩)) := by kernel_rfl

def expT (src port : Int) : Exp := ⟨6, src, 5, 0, port, 6, 7, 3, 100⟩
def tupT (frm port : Int) : Tup := ⟨6, frm, 5, 9, port⟩
theorem buildE (src port : Int) (w : World) : Qbuild Try.prog 25 #[(0, .int .u8 6), (1, .int .u32 src), (2, .int .u32 5), (4, .int .u16 port), (5, .int .u32 6), (6, .int .u16 7), (7, .int .i64 3), (8, .int .i64 100)] w = some (expT src port).v := by kernel_rfl
theorem buildT (frm port : Int) (w : World) : Qbuild Try.prog 37 #[(0, .int .u8 6), (1, .int .u32 frm), (2, .int .u32 5), (3, .int .u16 9), (4, .int .u16 port)] w = some (tupT frm port).v := by kernel_rfl

theorem add_t {src port : Int} (h : port ≠ 0) : addM [] (expT src port) = (0, [expT src port]) := by
  have : rightM (expT src port) = true := by simp [rightM, expT, h]
  simp [addM, this, ownM]
theorem add_0 {src : Int} : addM [] (expT src 0) = (2, []) := by
  have : rightM (expT src 0) = false := by simp [rightM, expT]
  simp [addM, this]
theorem fits_t (src frm port now : Int) : fitsP (tupT frm port) now (expT src port) = ((src == 0 || src == frm) && decide (now < 100)) := by
  unfold fitsP tupT expT
  simp only [beq_self_eq_true, Bool.and_true]
theorem match_t (t : Tup) (now : Int) (e : Exp) : matchM t now [e] = if fitsP t now e then ((e, true), []) else ((Exp.zero, false), [e]) := by
  unfold matchM
  by_cases h : fitsP t now e <;> simp [List.findIdx?_cons, h]
theorem match_e (t : Tup) (now : Int) : matchM t now [] = ((Exp.zero, false), []) := rfl
theorem match_2 (t : Tup) (now : Int) (e : Exp) : matchM t now (matchM t now [e]).2 = ((Exp.zero, false), (matchM t now [e]).2) := by
  rw [match_t]
  by_cases h : fitsP t now e
  · rw [if_pos h]; rfl
  · rw [if_neg h, match_t, if_neg h]

theorem conv53 {n : Int} (h0 : 0 ≤ n) (h1 : n < 256) : Qconv Try.prog 5 3 (.int .u8 n) = some (.int .i64 n) := by
  rw [Qconv_int (k := .i64) (by kernel_rfl), wrap_i64 (by omega) (by omega)]

theorem l11 {w : World} {src frm port now : Int} (h0 : 0 ≤ now) (h1 : now < 256) (hok : ∀ p, p = port → (expT src p).ok) : Brings (s11 (.agg #[.int .u32 src, .int .u32 frm]) (.int .u16 port) (.int .u8 now) w) (Yes w) := by
  unfold s11
  have V0 := (Locals.nil w).add rfl (.cells #[.int .u32 src, .int .u32 frm] 55)
  simp only [go_sem]
  have V1 := V0.later (Bel.refl _).drew
  generalize (w.alloc (.cells #[.int .u32 src, .int .u32 frm] 55)).drew = w1 at V1
  have hw0 := V1.at_ 0 _ rfl
  have a0 : w1.cell? ⟨w.heap.size, 0, none⟩ = some (.int .u32 src) := cell_at hw0 rfl
  have a1 : w1.cell? ⟨w.heap.size, 1, none⟩ = some (.int .u32 frm) := cell_at hw0 rfl
  simp only [at55x0, at55x1, Qload_cell one22 a0, Qload_cell one22 a1, go_sem]
  have hb := V1.bel
  clear a0 a1 hw0 V0 V1
  refine k12.bind ?_
  rintro ⟨_, w2⟩ ⟨a, sa, e1, b2, oa, fa⟩
  simp only at e1 b2 oa
  subst e1
  have B := local_bel w2 (.cells Exp.zero.cs.toArray 25) (expT src port).cs.toArray
  have X := local_at w2 (expT src port).cs Exp.zero.cs 25
  simp only [buildE, alloc25, put25, go_sem]
  have b3 := b2.trans B
  have o3 := oa.bel B
  have nx : ¬ Foot a sa w2.heap.size := fun h => by have := oa.lt _ h; omega
  clear B
  generalize (w2.alloc (.cells Exp.zero.cs.toArray 25)).setRow w2.heap.size (expT src port).cs.toArray = w3 at X b3 o3
  have s3 := b3.size
  generalize w2.heap.size = q at X nx
  refine .cond (fun hp => ?_) (fun hp => ?_)
  · obtain rfl : port = 0 := by simpa using hp
    simp only [Exp.all X, go_sem]
    refine (k13 o3 (hok 0 rfl)).bind ?_
    rw [add_0]
    rintro ⟨_, w4⟩ hd
    obtain ⟨rfl, b4, -⟩ := did_new b3 hd fa
    simp only [beq_self_eq_true, go_sem]
    exact .ret ⟨rfl, hb.trans b4⟩
  · have hp : port ≠ 0 := by simpa using hp
    simp only [Exp.all X, go_sem]
    refine (k13 o3 (hok port rfl)).bind ?_
    rw [add_t hp]
    rintro ⟨_, w4⟩ ⟨e1, c4, sl, o4, f4⟩
    simp only at e1 c4 o4
    subst e1
    have X4 := X.chg c4 nx
    have lt4 : q < w3.heap.size := World.block_lt_of_cell? _ _ (X 0 _ rfl)
    have nx4 : ¬ Foot a sl q := fun h => by rcases f4 q h with h | h; exact nx h; omega
    have b4 : Bel w1 w4 := (b3.thenChg c4).bel fun k hk h => by have := fa k h; omega
    have fa4 : ∀ k, Foot a sl k → w1.heap.size ≤ k := fun k hk => by
      rcases f4 k hk with h | h
      · exact fa k h
      · omega
    have s4 := b4.size
    clear c4 f4 X nx
    refine (k25 o4).bind ?_
    rintro ⟨_, w5⟩ ⟨c, sc, e1, b5, oc, fc⟩
    simp only at e1 b5 oc
    subst e1
    have T := local_at w5 (tupT frm port).cs Tup.zero.cs 37
    have B := local_bel w5 (.cells Tup.zero.cs.toArray 37) (tupT frm port).cs.toArray
    simp only [buildT, alloc37, put37, conv53 h0 h1, go_sem]
    have nt5 : ¬ Foot a sl w5.heap.size ∧ ¬ Foot c sc w5.heap.size := ⟨fun h => by have := o4.lt _ h; have := b5.size; omega, fun h => by have := oc.lt _ h; omega⟩
    have o6 := (o4.bel b5).bel B
    have oc6 := oc.bel B
    have X6 := (X4.bel b5).bel B
    have b6 := (b4.trans b5).trans B
    have ncq : ¬ Foot c sc q := fun h => by have := fc q h; have := World.block_lt_of_cell? _ _ (X4 0 _ rfl); simp at this; omega
    have dis : ∀ k, Foot a sl k → ¬ Foot c sc k := fun k hk hc => by have := o4.lt k hk; have := fc k hc; omega
    clear B X4 oc o4
    generalize (w5.alloc (.cells Tup.zero.cs.toArray 37)).setRow w5.heap.size (tupT frm port).cs.toArray = w6 at T o6 oc6 X6 b6
    generalize w5.heap.size = qt at T nt5
    simp only [Tup.all T, go_sem]
    have fc1 : ∀ k, Foot c sc k → w1.heap.size ≤ k := fun k hk => by have := fc k hk; omega
    have ltq : q < w6.heap.size := World.block_lt_of_cell? _ _ (X6 0 _ rfl)
    have ltt : qt < w6.heap.size := World.block_lt_of_cell? _ _ (T 0 _ rfl)
    refine (k21 o6).bind ?_
    rintro ⟨_, w7⟩ ⟨e1, c7, sl7, o7, f7⟩
    simp only at e1 c7 o7
    subst e1
    have B := local_bel w7 (.cells Exp.zero.cs.toArray 25) (peekM (tupT frm port) now [expT src port]).1.cs.toArray
    have X1 := local_at w7 (peekM (tupT frm port) now [expT src port]).1.cs Exp.zero.cs 25
    simp only [put25, go_sem]
    have T8 := (T.chg c7 nt5.1).bel B
    have X8 := (X6.chg c7 nx4).bel B
    have o8 := o7.bel B
    have oc8 := (oc6.keep c7 fun k hk hf => dis k hf hk).bel B
    have b8 : Bel w1 ((w7.alloc (.cells Exp.zero.cs.toArray 25)).setRow w7.heap.size (peekM (tupT frm port) now [expT src port]).1.cs.toArray) := ((b6.thenChg c7).bel fun k hk h => by have := fa4 k h; omega).trans B
    have fa8 : ∀ k, Foot a sl7 k → w1.heap.size ≤ k := fun k hk => by
      rcases f7 k hk with h | h
      · exact fa4 k h
      · have := b6.size; omega
    have nq7 : ¬ Foot a sl7 q ∧ ¬ Foot a sl7 qt ∧ ¬ Foot a sl7 w7.heap.size := ⟨fun h => by rcases f7 q h with h | h; exact nx4 h; omega, fun h => by rcases f7 qt h with h | h; exact nt5.1 h; omega, fun h => by have := o7.lt _ h; omega⟩
    have dis8 : ∀ k, Foot a sl7 k → ¬ Foot c sc k := fun k hk hc => by
      rcases f7 k hk with h | h
      · exact dis k h hc
      · have := oc6.lt k hc; omega
    have nc7 : ¬ Foot c sc w7.heap.size := fun h => by have := oc6.lt _ h; have := c7.size; omega
    clear B c7 T X6 o6 oc6
    generalize w7.heap.size = q1 at X1 nq7 nc7 T8 X8 o8 oc8 b8
    generalize (w7.alloc (.cells Exp.zero.cs.toArray 25)).setRow q1 (peekM (tupT frm port) now [expT src port]).1.cs.toArray = w8 at X1 T8 X8 o8 oc8 b8
    simp only [Tup.all T8, conv53 h0 h1, go_sem]
    refine (k21 o8).bind ?_
    rintro ⟨_, w9⟩ ⟨e1, c9, sl9, o9, f9⟩
    unfold peekM at e1
    rw [match_2] at e1 o9
    simp only at e1 c9 o9
    subst e1
    have B := local_bel w9 (.cells Exp.zero.cs.toArray 25) Exp.zero.cs.toArray
    simp only [put25, go_sem]
    have T10 := (T8.chg c9 nq7.2.1).bel B
    have X10 := (X8.chg c9 nq7.1).bel B
    have Y10 := (X1.chg c9 nq7.2.2).bel B
    have oc10 := (oc8.keep c9 fun k hk hf => dis8 k hf hk).bel B
    have b10 : Bel w1 ((w9.alloc (.cells Exp.zero.cs.toArray 25)).setRow w9.heap.size Exp.zero.cs.toArray) := ((b8.thenChg c9).bel fun k hk h => by have := fa8 k h; omega).trans B
    clear B c9 T8 X8 X1 oc8 o8 o9
    generalize (w9.alloc (.cells Exp.zero.cs.toArray 25)).setRow w9.heap.size Exp.zero.cs.toArray = w10 at T10 X10 Y10 oc10 b10
    refine (k22 (m := 3) oc10).bind ?_
    rintro ⟨v11, w11⟩ ⟨c11, own, f11, sc11, k11, g11, d11⟩
    have ey : [expT src port].filter (masterP 3) = [expT src port] := by simp [masterP, expT]
    have en : [expT src port].filter (fun x => !masterP 3 x) = [] := by simp [masterP, expT]
    rw [ey] at own
    rw [en] at k11
    simp only at c11 own k11
    have T11 := T10.chg c11 nt5.2
    have X11 := X10.chg c11 ncq
    have Y11 := Y10.chg c11 nc7
    have b11 : Bel w1 w11 := (b10.thenChg c11).bel fun k hk h => by have := fc1 k h; omega
    have s10 := b10.size
    have lq : q < w10.heap.size := World.block_lt_of_cell? _ _ (X10 0 _ rfl)
    have lq1 : q1 < w10.heap.size := World.block_lt_of_cell? _ _ (Y10 0 _ rfl)
    simp only [Tup.all T11, go_sem]
    refine (k21 k11).bind ?_
    rintro ⟨_, w12⟩ ⟨e1, c12, sl12, -, f12⟩
    simp only at e1 c12
    have : peekM (tupT frm port) 0 [] = (Exp.zero, false) := rfl
    rw [this] at e1
    subst e1
    have B := local_bel w12 (.cells Exp.zero.cs.toArray 25) Exp.zero.cs.toArray
    simp only [put25, go_sem]
    have nf : ∀ k, k < w10.heap.size → ¬ Foot c sc k → ¬ Foot c sc11 k := fun k hk hn h => by
      rcases g11 k h with h | h
      · exact hn h
      · omega
    have X13 := (X11.chg c12 (nf q lq ncq)).bel B
    have Y13 := (Y11.chg c12 (nf q1 lq1 nc7)).bel B
    have own13 := (own.chg c12 d11).bel B
    have b13 : Bel w1 ((w12.alloc (.cells Exp.zero.cs.toArray 25)).setRow w12.heap.size Exp.zero.cs.toArray) := ((b11.thenChg c12).bel fun k hk h => by
      rcases g11 k h with h | h
      · have := fc1 k h; omega
      · omega).trans B
    clear B
    generalize (w12.alloc (.cells Exp.zero.cs.toArray 25)).setRow w12.heap.size Exp.zero.cs.toArray = w13 at X13 Y13 own13 b13
    have hf := fits_t src frm port now
    have hpk : peekM (tupT frm port) now [expT src port] = if fitsP (tupT frm port) now (expT src port) then (expT src port, true) else (Exp.zero, false) := by
      unfold peekM
      rw [match_t]
      split <;> rfl
    have fin : Brings (some (Value.bool true, w13)) (Yes w) := .ret ⟨rfl, hb.trans b13⟩
    have e5 : ∀ x y : Bool, Qbin Try.prog .eql 4 (.bool x) (.bool y) = some (.bool (x == y)) := fun x y => Qb_eqlB (by kernel_rfl)
    rw [hf] at hpk
    have lenv : Qlen Try.prog #[32] 3 #[v11] w13 = some (.int .i64 1) := own13.view.len und32 _
    cases c0 : src == 0 <;> simp only [c0, Bool.false_or, Bool.true_or] at hpk <;> simp only [go_sem]
    · cases c1 : src == frm <;> simp only [c1, Bool.false_and, Bool.true_and] at hpk
      · rw [hpk] at Y13 ⊢
        simp only [go_sem, e5, beq_self_eq_true, Bool.not_false, lenv, Bool.false_eq_true, if_false]
        exact fin
      · cases c2 : decide (now < 100) <;> simp only [c2] at hpk <;> rw [hpk] at Y13 ⊢
        · simp only [go_sem, e5, beq_self_eq_true, Bool.not_false, lenv, Bool.false_eq_true, if_false, c2]
          exact fin
        · simp only [if_true] at Y13
          simp only [go_sem, e5, beq_self_eq_true, Bool.not_false, Bool.not_true, lenv, if_true, c2, Exp.all Y13, Exp.all X13, Exp.eql, decide_true]
          exact fin
    · cases c2 : decide (now < 100) <;> simp only [c2, Bool.true_and] at hpk <;> rw [hpk] at Y13 ⊢
      · simp only [go_sem, e5, beq_self_eq_true, Bool.not_false, lenv, Bool.false_eq_true, if_false, c2]
        exact fin
      · simp only [if_true] at Y13
        simp only [go_sem, e5, beq_self_eq_true, Bool.not_false, Bool.not_true, lenv, if_true, c2, Exp.all Y13, Exp.all X13, Exp.eql, decide_true]
        exact fin

end Go.Proofs.Ytnnhfnjdcomjmaa
