/- Deeds on both; what is told behind them. -/
import Derived.Test.YtnnhfnjdcomjmaaEx7
namespace Go.Proofs.Ytnnhfnjdcomjmaa
open Go Go.Ev Go.RowKit
open Go.Proofs

/-- Two books of the same, apart from each other. -/
structure Two (w : World) (a : Nat) (sa : Value) (b : Nat) (sb : Value) (l : List Exp) : Prop where
  A : Bk 58 w a sa l
  B : Bk 69 w b sb l
  dis : ∀ k, Foot a sa k → ¬ Foot b sb k

theorem Two.bel {w w' : World} {a b : Nat} {sa sb : Value} {l : List Exp} (h : Two w a sa b sb l) (hb : Bel w w') : Two w' a sa b sb l := ⟨h.A.bel hb, h.B.bel hb, h.dis⟩

/-- A deed is done on both. -/
def Both (w : World) (a : Nat) (sa : Value) (b : Nat) (sb : Value) (l' : List Exp) (r : Value × World) : Prop :=
  r.1 = .bool true ∧ Chg (fun k => Foot a sa k ∨ Foot b sb k) w r.2 ∧ ∃ sa' sb', Two r.2 a sa' b sb' l' ∧ (∀ k, Foot a sa' k → Foot a sa k ∨ w.heap.size ≤ k) ∧ ∀ k, Foot b sb' k → Foot b sb k ∨ w.heap.size ≤ k

theorem both_of {w w1 w2 w3 w4 w5 : World} {a b : Nat} {sa sb sa' sb' : Value} {l l' : List Exp} (h : Two w a sa b sb l) (hb : Bel w w1) (c2 : Chg (Foot a sa) w1 w2) (o2 : Bk 58 w2 a sa' l') (f2 : ∀ k, Foot a sa' k → Foot a sa k ∨ w1.heap.size ≤ k) (b23 : Bel w2 w3)
    (c3 : Chg (Foot b sb) w3 w4) (o3 : Bk 69 w4 b sb' l') (f3 : ∀ k, Foot b sb' k → Foot b sb k ∨ w3.heap.size ≤ k) (b45 : Bel w4 w5) : Both w a sa b sb l' (.bool true, w5) := by
  have s1 := hb.size
  have s2 := c2.size
  have s3 := b23.size
  have la := h.A.lt
  have lb := h.B.lt
  have la' := o2.lt
  refine ⟨rfl, (((hb.thenChg (c2.mono fun k _ hk => .inl hk)).thenBel b23).trans (c3.mono fun k _ hk => .inr hk) fun _ _ h => h).thenBel b45, sa', sb', Two.bel ⟨(o2.bel b23).keep c3 fun k hk hf => ?_, o3, fun k hk hf => ?_⟩ b45, fun k hk => (f2 k hk).imp id fun h => by omega, fun k hk => (f3 k hk).imp id fun h => by omega⟩
  · rcases f2 k hk with h1 | h1
    · exact h.dis k h1 hf
    · have := lb k hf; omega
  · rcases f2 k hk with h1 | h1 <;> rcases f3 k hf with h2 | h2
    · exact h.dis k h1 h2
    · have := la k h1; omega
    · have := lb k h2; omega
    · have := la' k hk; omega

def deedM (l : List Exp) (x : Deed) : List Exp :=
  if x.kind = 0 then (addM l x.e).2 else if x.kind = 1 then (matchM x.t x.now l).2 else if x.kind = 2 then l.filter (fun y => !masterP x.e.master y) else if x.kind = 3 then l.filter (fun y => !dueP x.now y) else l

theorem k27 {w : World} {a b : Nat} {sa sb : Value} {l : List Exp} {x : Deed} (h : Two w a sa b sb l) (hx : x.ok) :
    Brings (Xcall Try.prog (Value.func (Fn.func 27) #[] #[]) #[.pointer (some ⟨a, 0, none⟩), .pointer (some ⟨b, 0, none⟩), x.v] w) (Both w a sa b sb (deedM l x)) := by
  refine e27 ?_
  unfold s27 deedM
  have A := x.new w
  have hb : Bel w (w.alloc (.cells x.cs.toArray 39)) := (Bel.refl w).alloc _
  have na : ¬ Foot a sa w.heap.size := fun hf => by have := h.A.lt _ hf; omega
  have nb : ¬ Foot b sb w.heap.size := fun hf => by have := h.B.lt _ hf; omega
  rw [x.box]
  simp only [go_sem, Deed.b0 A]
  generalize w.alloc (.cells x.cs.toArray 39) = w0 at A hb
  have A1 : CellsAt x.cs w0.drew w.heap.size 0 := A.bel (Bel.refl _).drew
  have hb1 := hb.drew
  have h0 := h.bel hb
  have h1 := h.bel hb1
  generalize w0.drew = w1 at A1 hb1 h1
  generalize w.heap.size = q at A A1 na nb
  refine .cond (fun k0 => ?_) (fun k0 => ?_)
  · have k0 : x.kind = 0 := by simpa using k0
    simp only [k0, if_true, Exp.all (Deed.in1 A1), go_sem]
    refine (k13 h1.A hx.2.1).bind ?_
    rintro ⟨_, w2⟩ ⟨e1, c2, sa', o2, f2⟩
    simp only at e1 c2 o2
    subst e1
    have A2 := A1.chg c2 na
    simp only [Exp.all (Deed.in1 A2), go_sem]
    refine (k42 (h1.B.keep c2 fun k hk hf => h1.dis k hf hk) hx.2.1).bind ?_
    rintro ⟨_, w3⟩ ⟨e1, c3, sb', o3, f3⟩
    simp only at e1 c3 o3
    subst e1
    simp only [go_sem, beq_self_eq_true, Exp.all (Deed.in1 A2), eq_self, and_self]
    exact .ret (both_of h hb1 c2 o2 f2 (Bel.refl _) c3 o3 f3 (Bel.refl _))
  have k0 : ¬ x.kind = 0 := by simpa using k0
  refine .cond (fun k1 => ?_) (fun k1 => ?_)
  · have k1 : x.kind = 1 := by simpa using k1
    simp only [k1, show ¬ (1 : Int) = 0 by decide, if_true, if_false, Tup.all (Deed.in2 A), Deed.b3 A, go_sem]
    refine (k21 h0.A).bind ?_
    rintro ⟨_, w2⟩ ⟨e1, c2, sa', o2, f2⟩
    simp only at e1 c2 o2
    subst e1
    have B := local_bel w2 (.cells Exp.zero.cs.toArray 25) (peekM x.t x.now l).1.cs.toArray
    have X := local_at w2 (peekM x.t x.now l).1.cs Exp.zero.cs 25
    have A2 := (A.chg c2 na).bel B
    have s2 := c2.size
    have s0 := hb.size
    simp only [alloc25, put25, go_sem]
    have nx : ¬ Foot b sb w2.heap.size := fun hf => by have := h.B.lt _ hf; omega
    generalize (w2.alloc (.cells Exp.zero.cs.toArray 25)).setRow w2.heap.size (peekM x.t x.now l).1.cs.toArray = w3 at B X A2
    generalize w2.heap.size = qx at X nx
    simp only [Tup.all (Deed.in2 A2), Deed.b3 A2, go_sem]
    refine (k43 ((h0.B.keep c2 fun k hk hf => h1.dis k hf hk).bel B)).bind ?_
    rintro ⟨_, w4⟩ ⟨e1, c4, sb', o4, f4⟩
    simp only at e1 c4 o4
    subst e1
    have X := X.chg c4 nx
    have B5 := local_bel w4 (.cells Exp.zero.cs.toArray 25) (peekM x.t x.now l).1.cs.toArray
    have X5 := local_at w4 (peekM x.t x.now l).1.cs Exp.zero.cs 25
    have X := X.bel B5
    simp only [put25, go_sem]
    generalize (w4.alloc (.cells Exp.zero.cs.toArray 25)).setRow w4.heap.size (peekM x.t x.now l).1.cs.toArray = w5 at B5 X5 X
    simp only [Exp.all X, Exp.all X5, Exp.eql, decide_true, go_sem, Qb_eqlB (P := Try.prog) (t := 4) (by kernel_rfl), beq_self_eq_true]
    exact .ret (both_of h hb c2 o2 f2 B c4 o4 f4 B5)
  have k1 : ¬ x.kind = 1 := by simpa using k1
  refine .cond (fun k2 => ?_) (fun k2 => ?_)
  · have k2 : x.kind = 2 := by simpa using k2
    simp only [k2, show ¬ (2 : Int) = 0 by decide, show ¬ (2 : Int) = 1 by decide, if_true, if_false, Exp.f7 (Deed.in1 A1), go_sem]
    refine (k22 h1.A).bind ?_
    rintro ⟨v1, w2⟩ ⟨c2, o2, f2, sa', b2, g2, d2⟩
    simp only at c2 o2 b2
    have A2 := A1.chg c2 na
    have s2 := c2.size
    have s1 := hb1.size
    simp only [Exp.f7 (Deed.in1 A2), go_sem]
    refine (k44 (h1.B.keep c2 fun k hk hf => h1.dis k hf hk)).bind ?_
    rintro ⟨v2, w3⟩ ⟨c3, o3, f3, sb', b3, g3, d3⟩
    simp only at c3 o3 b3
    refine (k24 (o2.chg c3 fun k hk hf => by have := f2 k hk; have := h.B.lt k hf; omega).view o3.view).bind ?_
    rintro ⟨_, w4⟩ ⟨e1, b4⟩
    simp only [decide_true] at e1 b4
    subst e1
    simp only [go_sem, eq_self, and_self, Exp.f7 (Deed.in1 A2)]
    exact .ret (both_of h hb1 c2 b2 g2 (Bel.refl _) c3 b3 g3 b4)
  have k2 : ¬ x.kind = 2 := by simpa using k2
  refine .cond (fun k3 => ?_) (fun k3 => ?_)
  · have k3 : x.kind = 3 := by simpa using k3
    simp only [k3, show ¬ (3 : Int) = 0 by decide, show ¬ (3 : Int) = 1 by decide, show ¬ (3 : Int) = 2 by decide, if_true, if_false, Deed.b3 A1, go_sem]
    refine (k23 h1.A).bind ?_
    rintro ⟨v1, w2⟩ ⟨c2, o2, f2, sa', b2, g2, d2⟩
    simp only at c2 o2 b2
    have A2 := A1.chg c2 na
    have s2 := c2.size
    have s1 := hb1.size
    simp only [Deed.b3 A2, go_sem]
    refine (k45 (h1.B.keep c2 fun k hk hf => h1.dis k hf hk)).bind ?_
    rintro ⟨v2, w3⟩ ⟨c3, o3, f3, sb', b3, g3, d3⟩
    simp only at c3 o3 b3
    refine (k24 (o2.chg c3 fun k hk hf => by have := f2 k hk; have := h.B.lt k hf; omega).view o3.view).bind ?_
    rintro ⟨_, w4⟩ ⟨e1, b4⟩
    simp only [decide_true] at e1 b4
    subst e1
    simp only [go_sem, eq_self, and_self, Deed.b3 A2]
    exact .ret (both_of h hb1 c2 b2 g2 (Bel.refl _) c3 b3 g3 b4)
  · have k3 : ¬ x.kind = 3 := by simpa using k3
    simp only [k0, k1, k2, k3, if_false]
    exact .ret ⟨rfl, .of_bel hb _, sa, sb, h0, fun k hk => .inl hk, fun k hk => .inl hk⟩

/-- The book behind deeds. -/
def deedsM (l : List Exp) (ds : List Deed) : List Exp := ds.foldl deedM l

theorem und35 : Try.prog.underlying 35 = some (.slice 39) := by kernel_rfl

/-- Two new books behind deeds. -/
def Played (w : World) (l : List Exp) (r : Value × World) : Prop :=
  ∃ a sa b sb, r.1 = .tuple #[.pointer (some ⟨a, 0, none⟩), .pointer (some ⟨b, 0, none⟩), .bool true] ∧ Bel w r.2 ∧ Two r.2 a sa b sb l ∧ (∀ k, Foot a sa k → w.heap.size ≤ k) ∧ ∀ k, Foot b sb k → w.heap.size ≤ k

theorem k18 {w : World} {s : Value} {ds : List Deed} (hv : View Deed.cs 16 w s ds) (hok : ∀ x ∈ ds, x.ok) : Brings (Xcall Try.prog (Value.func (Fn.func 18) #[] #[]) #[s] w) (Played w (deedsM [] (ds.take 100))) := by
  refine e18 ?_
  unfold s18
  refine k12.bind ?_
  rintro ⟨_, w1⟩ ⟨a, sa, h1, b1, oa, fa⟩
  simp only at h1 b1 oa
  subst h1
  simp only
  refine k34.bind ?_
  rintro ⟨_, w2⟩ ⟨b, sb, h1, b2, ob, fb⟩
  simp only at h1 b2 ob
  subst h1
  simp only
  have T0 : Two w2 a sa b sb [] := ⟨oa.bel b2, ob, fun k hk hf => by have := oa.lt k hk; have := fb k hf; omega⟩
  have s1 := b1.size
  have h63 := hv.small
  simp only [maxLen] at h63
  refine Brings.loop (fun m xs w' => ∃ (i : Nat) (ta tb : Value), xs = [s, .pointer none, .pointer none, .bool false, .pointer (some ⟨a, 0, none⟩), .pointer (some ⟨b, 0, none⟩), .int .i64 i] ∧ i ≤ ds.length ∧ i ≤ 100 ∧ m = 100 - i ∧ Bel w w' ∧ Two w' a ta b tb (deedsM [] (ds.take i)) ∧ (∀ k, Foot a ta k → w.heap.size ≤ k) ∧ ∀ k, Foot b tb k → w.heap.size ≤ k) ?_ 100 _ _
    ⟨0, sa, sb, rfl, by omega, by omega, by omega, b1.trans b2, by simpa [deedsM] using T0, fa, fun k hk => by have := fb k hk; omega⟩
  rintro m xs w' ⟨i, ta, tb, rfl, hi, hi60, hm, hb, T, ha', hb'⟩
  simp only [s18B0, hv.len und35, go_sem]
  have fin : ¬ (i < ds.length ∧ i < 100) → Brings (s18R0 (.exit 0) [s, .pointer none, .pointer none, .bool false, .pointer (some ⟨a, 0, none⟩), .pointer (some ⟨b, 0, none⟩), .int .i64 i] w') (Played w (deedsM [] (ds.take 100))) := fun hn => by
    have : ds.take 100 = ds.take i := by
      rcases Nat.lt_or_ge i 100 with h | h
      · have : i = ds.length := by omega
        subst this
        rw [List.take_length, List.take_of_length_le (by omega)]
      · rw [show i = 100 by omega]
    rw [this]
    exact .ret ⟨a, ta, b, tb, rfl, hb, T, ha', hb'⟩
  by_cases h1 : i < ds.length
  · have e1 : decide ((i : Int) < ds.length) = true := by rw [decide_eq_true_iff]; omega
    by_cases h2 : i < 100
    · have e2 : decide ((i : Int) < 100) = true := by rw [decide_eq_true_iff]; omega
      simp only [e1, e2, go_sem]
      obtain ⟨t, ht, hts⟩ := inf39
      obtain ⟨x, g, o, hx, _, hix, hc⟩ := (hv.bel hb).get und35 ht hts (n := i) (by omega) (by omega)
      simp only [Int.toNat_natCast] at hx
      simp only [hix, Deed.all hc, go_sem]
      refine (k27 T (hok x (List.mem_of_getElem? hx))).bind ?_
      rintro ⟨_, w3⟩ ⟨e3, c3, ta', tb', T3, f3, g3⟩
      simp only at e3 c3 T3
      subst e3
      have sz := hb.size
      simp only [go_sem, Bool.not_true]
      refine .ret (.inl ⟨rfl, 100 - (i + 1), by omega, i + 1, ta', tb', by rw [wrap_i64 (by omega) (by omega)]; rfl, by omega, by omega, rfl, ?_, ?_, ?_, ?_⟩)
      · refine (hb.thenChg c3).bel fun k hk h => ?_
        rcases h with h | h
        · have := ha' k h; omega
        · have := hb' k h; omega
      · have : ds.take (i + 1) = ds.take i ++ [x] := by rw [List.take_add_one, hx]; rfl
        rw [this]
        unfold deedsM at T3 ⊢
        rw [List.foldl_append]
        exact T3
      · intro k hk
        rcases f3 k hk with h | h
        · exact ha' k h
        · omega
      · intro k hk
        rcases g3 k hk with h | h
        · exact hb' k h
        · omega
    · have e2 : decide ((i : Int) < 100) = false := by rw [decide_eq_false_iff_not]; omega
      simp only [e1, e2, go_sem]
      exact .ret (.inr ⟨by simp, fin (by omega)⟩)
  · have e1 : decide ((i : Int) < ds.length) = false := by rw [decide_eq_false_iff_not]; omega
    simp only [e1, go_sem]
    exact .ret (.inr ⟨by simp, fin (by omega)⟩)

theorem k19 {w : World} {a b : Nat} {sa sb : Value} {l : List Exp} {t : Tup} {now : Int} (h : Two w a sa b sb l) :
    Brings (Xcall Try.prog (Value.func (Fn.func 19) #[] #[]) #[.pointer (some ⟨a, 0, none⟩), .pointer (some ⟨b, 0, none⟩), t.v, .int .i64 now] w) (fun r => r.1 = .bool true ∧ Bel w r.2) := by
  refine e19 ?_
  unfold s19
  have A := t.new w
  have b0 : Bel w (w.alloc (.cells t.cs.toArray 37)) := (Bel.refl w).alloc _
  rw [t.box]
  simp only [go_sem]
  generalize w.alloc (.cells t.cs.toArray 37) = w1 at A b0
  generalize w.heap.size = p at A
  simp only [Tup.all A, go_sem]
  refine (k20 (h.bel b0).A).bind ?_
  rintro ⟨_, w2⟩ ⟨e1, b2⟩
  simp only at e1 b2
  subst e1
  have B := local_bel w2 (.cells Exp.zero.cs.toArray 25) (peekM t now l).1.cs.toArray
  have X1 := local_at w2 (peekM t now l).1.cs Exp.zero.cs 25
  simp only [alloc25, put25, go_sem]
  have b3 := (b0.trans b2).trans B
  have A3 := A.bel (b2.trans B)
  clear b2 B
  generalize (w2.alloc (.cells Exp.zero.cs.toArray 25)).setRow w2.heap.size (peekM t now l).1.cs.toArray = w3 at X1 b3 A3
  simp only [Tup.all A3, go_sem]
  refine (k35 (h.bel b3).B).bind ?_
  rintro ⟨_, w4⟩ ⟨e1, b4⟩
  simp only at e1 b4
  subst e1
  have B := local_bel w4 (.cells Exp.zero.cs.toArray 25) (peekM t now l).1.cs.toArray
  have X2 := local_at w4 (peekM t now l).1.cs Exp.zero.cs 25
  simp only [put25, go_sem]
  have b5 := (b3.trans b4).trans B
  have X1 := X1.bel (b4.trans B)
  clear b4 B
  generalize (w4.alloc (.cells Exp.zero.cs.toArray 25)).setRow w4.heap.size (peekM t now l).1.cs.toArray = w5 at X1 X2 b5
  simp only [Exp.all X1, Exp.all X2, Exp.eql, decide_true, Qb_eqlB (P := Try.prog) (t := 4) (by kernel_rfl), beq_self_eq_true, go_sem]
  refine (k17 (h.bel b5).A).bind ?_
  rintro ⟨v1, w10⟩ ⟨b10, o10, f10⟩
  simp only at b10 o10 f10 ⊢
  refine (k36 ((h.bel b5).bel b10).B).bind ?_
  rintro ⟨v2, w11⟩ ⟨b11, o11, f11⟩
  simp only at b11 o11 f11 ⊢
  refine (k24 ((View.of_owns o10 (Exp.lens l)).bel b11) (View.of_owns o11 (Exp.lens l))).bind ?_
  rintro ⟨_, w12⟩ ⟨e1, b12⟩
  simp only at e1 b12
  subst e1
  simp only [decide_true, go_sem]
  exact .ret ⟨rfl, ((b5.trans b10).trans b11).trans b12⟩

/-! ## Alive -/

def exp5 : Exp := ⟨6, 0, 7, 0, 9, 5, 1, 0, 10⟩
def tup5 : Tup := ⟨6, 3, 7, 0, 9⟩
theorem build5 (w : World) : Qbuild Try.prog 25 #[(0, .int .u8 6), (2, .int .u32 7), (4, .int .u16 9), (5, .int .u32 5), (6, .int .u16 1), (8, .int .i64 10)] w = some exp5.v := by kernel_rfl
theorem buildt (w : World) : Qbuild Try.prog 37 #[(0, .int .u8 6), (1, .int .u32 3), (2, .int .u32 7), (4, .int .u16 9)] w = some tup5.v := by kernel_rfl
theorem add5 : addM [] exp5 = (0, [exp5]) := by decide +kernel
theorem match5 : matchM tup5 9 [exp5] = ((exp5, true), []) := by decide +kernel
theorem ok5 : exp5.ok := by unfold Exp.ok exp5; decide +kernel

/-- A new book and a deed. -/
theorem did_new {w w1 w2 : World} {a : Nat} {sl : Value} {l : List Exp} {u v : Value} (b1 : Bel w w1) (h : Did 58 w1 a sl u l (v, w2)) (hf : ∀ k, Foot a sl k → w.heap.size ≤ k) :
    v = u ∧ Bel w w2 ∧ ∃ sl', Bk 58 w2 a sl' l ∧ ∀ k, Foot a sl' k → w.heap.size ≤ k := by
  obtain ⟨e1, c2, sl', o2, k2⟩ := h
  refine ⟨e1, (b1.thenChg c2).bel fun k hk h => by have := hf k h; omega, sl', o2, fun k hk => ?_⟩
  have := b1.size
  rcases k2 k hk with h | h
  · exact hf k h
  · omega

theorem k15 {w : World} : Brings (Xcall Try.prog (Value.func (Fn.func 15) #[] #[]) #[] w) (fun r => r.1 = .bool true ∧ Bel w r.2) := by
  refine e15 ?_
  unfold s15
  refine k12.bind ?_
  rintro ⟨_, w1⟩ ⟨a, sa, h1, b1, oa, fa⟩
  simp only at h1 b1 oa
  subst h1
  simp only [build5, go_sem]
  refine (k13 (x := exp5) oa ok5).bind ?_
  rintro ⟨_, w2⟩ hd
  rw [add5] at hd
  obtain ⟨rfl, b2, sl, o2, f2⟩ := did_new b1 hd fa
  simp only [buildt, go_sem]
  refine (k21 (t := tup5) (now := 9) o2).bind ?_
  rintro ⟨_, w3⟩ hd
  unfold peekM at hd
  rw [match5] at hd
  obtain ⟨rfl, b3, sl, o3, f3⟩ := did_new b2 hd f2
  have B := local_bel w3 (.cells Exp.zero.cs.toArray 25) exp5.cs.toArray
  have X := local_at w3 exp5.cs Exp.zero.cs 25
  simp only [alloc25, put25, go_sem, beq_self_eq_true]
  generalize (w3.alloc (.cells Exp.zero.cs.toArray 25)).setRow w3.heap.size exp5.cs.toArray = w4 at X B
  simp only [Exp.b5 X, go_sem, show (exp5.host == 5) = true from rfl]
  refine (k17 (o3.bel B)).bind ?_
  rintro ⟨v, w5⟩ ⟨b5, o5, f5⟩
  simp only at b5 o5
  simp only [(View.of_owns o5 (Exp.lens _)).len und32, List.length_nil, go_sem]
  exact .ret ⟨rfl, (b3.trans B).trans b5⟩

end Go.Proofs.Ytnnhfnjdcomjmaa
