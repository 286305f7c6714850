/- Deeds on both; what is told behind them. -/
import Derived.Test.YtebhknagnkcldaaDoorPo8
namespace Go.Proofs.YtebhknagnkcldaaDoor
open Go Go.Ev Go.RowKit
open Go.Proofs
/-! ### Deed: type 29 -/
structure Deed where
  kind : Int
  n : Int
  deriving DecidableEq
def Deed.cs (x : Deed) : List Value := [.int .i64 x.kind] ++ [.int .u16 x.n]
def Deed.v (x : Deed) : Value := .agg x.cs.toArray
def Deed.ok (x : Deed) : Prop := (Lit.int .i64 x.kind).wf = true ∧ (Lit.int .u16 x.n).wf = true
def Deed.zero : Deed := ⟨0, 0⟩
theorem Deed.len (x : Deed) : x.cs.length = 2 := rfl
theorem zero29 (w : World) : (zeroValue 29).run Tryd.prog w = .ok Deed.zero.v w := by kernel_rfl
theorem inf29 : ∃ i, Tryd.prog.info? 29 = some i ∧ i.size = 2 := ⟨(Tryd.prog.info? 29).get (by kernel_rfl), by kernel_rfl, by kernel_rfl⟩
@[go_sem] theorem fa29x0 (g o : Nat) : QfieldAddr Tryd.prog 29 (.pointer (some ⟨g, o, none⟩)) 0 = some (.pointer (some ⟨g, o, none⟩)) := by kernel_rfl
@[go_sem high] theorem fb29x0 (g : Nat) : QfieldAddr Tryd.prog 29 (.pointer (some ⟨g, 0, none⟩)) 0 = some (.pointer (some ⟨g, 0, none⟩)) := by kernel_rfl
@[go_sem] theorem fa29x1 (g o : Nat) : QfieldAddr Tryd.prog 29 (.pointer (some ⟨g, o, none⟩)) 1 = some (.pointer (some ⟨g, o + 1, none⟩)) := by kernel_rfl
@[go_sem high] theorem fb29x1 (g : Nat) : QfieldAddr Tryd.prog 29 (.pointer (some ⟨g, 0, none⟩)) 1 = some (.pointer (some ⟨g, 1, none⟩)) := by kernel_rfl
theorem one22 : one Tryd.prog 22 = true := by kernel_rfl
theorem Deed.f0 {x : Deed} {w : World} {g o : Nat} (h : CellsAt x.cs w g o) : Qload Tryd.prog 3 (.pointer (some ⟨g, o, none⟩)) w = some (.int .i64 x.kind) := Qload_cell one3 (h 0 _ rfl)
theorem Deed.b0 {x : Deed} {w : World} {g : Nat} (h : CellsAt x.cs w g 0) : Qload Tryd.prog 3 (.pointer (some ⟨g, 0, none⟩)) w = some (.int .i64 x.kind) := Qload_cell one3 (by have := h 0 _ rfl; rwa [Nat.zero_add] at this)
theorem Deed.f1 {x : Deed} {w : World} {g o : Nat} (h : CellsAt x.cs w g o) : Qload Tryd.prog 22 (.pointer (some ⟨g, o + 1, none⟩)) w = some (.int .u16 x.n) := Qload_cell one22 (h 1 _ rfl)
theorem Deed.b1 {x : Deed} {w : World} {g : Nat} (h : CellsAt x.cs w g 0) : Qload Tryd.prog 22 (.pointer (some ⟨g, 1, none⟩)) w = some (.int .u16 x.n) := Qload_cell one22 (by have := h 1 _ rfl; rwa [Nat.zero_add] at this)
theorem Deed.all {x : Deed} {w : World} {g o : Nat} (h : CellsAt x.cs w g o) : Qload Tryd.prog 29 (.pointer (some ⟨g, o, none⟩)) w = some x.v := by
  obtain ⟨i, hi, hs⟩ := inf29
  exact Qload_cells Tryd.underlying29 hi (hs.trans x.len.symm) h
theorem Deed.box (x : Deed) (w : World) : Xbox Tryd.prog 29 x.v w = some (.pointer (some ⟨w.heap.size, 0, none⟩), w.alloc (.cells x.cs.toArray 29)) := nonrfl rfl
theorem Deed.new (x : Deed) (w : World) : CellsAt x.cs (w.alloc (.cells x.cs.toArray 29)) w.heap.size 0 := CellsAt.of (MapKept.heap_alloc w _).1
theorem Deed.one1 (x : Deed) : ∀ u ∈ x.v.cells.toList, u.oneCell' = true := by
  intro u hu
  have hu : u ∈ x.cs := by simpa [Deed.v, Value.cells] using hu
  exact List.all_eq_true.1 (show x.cs.all (fun u => u.oneCell') = true from rfl) u hu
theorem alloc29 (w : World) : Xalloc Tryd.prog 29 w = some (.pointer (some ⟨w.heap.size, 0, none⟩), w.alloc (.cells Deed.zero.cs.toArray 29)) := Xalloc_eq (zero29 w)
theorem store29 {x : Deed} {w : World} {g : Nat} {cur : Array Value} {te : TypeId} (hg : w.heap[g]? = some (.cells cur te (0, 0))) (hc : cur.size = 2) : Xstore Tryd.prog 29 (.pointer (some ⟨g, 0, none⟩)) x.v w = some (undef, w.setRow g x.cs.toArray) := by
  obtain ⟨i, hi, hs⟩ := inf29
  exact Xstore_var (v := x.v) hi (by rw [hs]; rfl) hg (by rw [hs]; exact hc) x.one1
theorem put29 (x z : Deed) (w : World) : Xstore Tryd.prog 29 (.pointer (some ⟨w.heap.size, 0, none⟩)) x.v (w.alloc (.cells z.cs.toArray 29)) = some (undef, (w.alloc (.cells z.cs.toArray 29)).setRow w.heap.size x.cs.toArray) := store29 (MapKept.heap_alloc w _).1 rfl
theorem okc29 {w : World} {n : Nat} {cs : List Value} (h : Okc Tryd.prog w n 29 cs) : ∃ x : Deed, cs = x.cs ∧ x.ok := by
  cases n with
  | zero => exact h.elim
  | succ n =>
    unfold Okc at h
    rw [Tryd.underlying29] at h
    obtain ⟨hl, hf⟩ := h
    rw [show Tryd.prog.cellsOf 29 = 2 from by kernel_rfl] at hl
    match cs, hl, hf with
    | [c0, c1], _, hf =>
      have h0 := hf _ (List.mem_iff_getElem.2 ⟨0, by decide +kernel, rfl⟩)
      change Okc Tryd.prog w n 3 (([c0, c1].drop 0).take (Tryd.prog.cellsOf 3)) at h0
      rw [show Tryd.prog.cellsOf 3 = 1 from by kernel_rfl] at h0
      obtain ⟨m0, e0, w0⟩ := okc_int (k := .i64) (by kernel_rfl) h0
      have h1 := hf _ (List.mem_iff_getElem.2 ⟨1, by decide +kernel, rfl⟩)
      change Okc Tryd.prog w n 22 (([c0, c1].drop 1).take (Tryd.prog.cellsOf 22)) at h1
      rw [show Tryd.prog.cellsOf 22 = 1 from by kernel_rfl] at h1
      obtain ⟨m1, e1, w1⟩ := okc_int (k := .u16) (by kernel_rfl) h1
      refine ⟨⟨m0, m1⟩, ?_, ⟨w0, w1⟩⟩
      subst e0 e1
      rfl
theorem open29 {w : World} {r : Reach} {b n : Nat} {v : Value} (hw : Value.okWide Tryd.prog w r b 29 v) (h : Okc Tryd.prog w n 29 v.cells.toList) : ∃ x : Deed, v = x.v ∧ x.ok := by
  obtain ⟨cs, rfl, _⟩ := Go.WideShapes.okWide_struct Tryd.underlying29 hw
  obtain ⟨x, hx, hok⟩ := okc29 h
  exact ⟨x, by rw [Deed.v, ← hx]; rfl, hok⟩
theorem eqv29 (x y : Deed) : eqV Tryd.prog 29 x.v y.v = (match (x.kind == y.kind) with | true => (match (x.n == y.n) with | true => (some true) | false => some false) | false => some false) := by kernel_rfl
theorem eqq29 (x y : Deed) : eqV Tryd.prog 29 x.v y.v = some (decide (x = y)) := by
  rw [eqv29]
  obtain ⟨a0, a1⟩ := x
  obtain ⟨b0, b1⟩ := y
  simp only [Deed.mk.injEq]
  cases h0 : (a0 == b0)
  · have : ¬ a0 = b0 := by simpa using h0
    simp [this]
  have e0 : a0 = b0 := by simpa using h0
  cases h1 : (a1 == b1)
  · have : ¬ a1 = b1 := by simpa using h1
    simp [this]
  have e1 : a1 = b1 := by simpa using h1
  simp [e0, e1]
theorem Deed.eql (x y : Deed) : Qbin Tryd.prog .eql 29 x.v y.v = some (.bool (decide (x = y))) := by
  show (eqV Tryd.prog 29 x.v y.v).map Value.bool = _
  rw [eqq29]; rfl
theorem Deed.neq (x y : Deed) : Qbin Tryd.prog .neq 29 x.v y.v = some (.bool (!decide (x = y))) := by
  show (eqV Tryd.prog 29 x.v y.v).map (fun b => Value.bool !b) = _
  rw [eqq29]; rfl

theorem build58a (lo hi : Nat) (w : World) : Qbuild Tryd.prog 58 #[(0, .int .i64 (lo : Int)), (1, .int .i64 (hi : Int))] w = some (.agg #[.int .i64 (lo : Int), .int .i64 (hi : Int), .slice none 0 0]) := by kernel_rfl
theorem build58b (lo hi : Nat) (x : Option Addr) (n c : Nat) (w : World) : Qbuild Tryd.prog 58 #[(0, .int .i64 (lo : Int)), (1, .int .i64 (hi : Int)), (2, .slice x n c)] w = some (.agg #[.int .i64 (lo : Int), .int .i64 (hi : Int), .slice x n c]) := by kernel_rfl
theorem box58 (cs : Array Value) (w : World) : Xbox Tryd.prog 58 (.agg cs) w = some (.pointer (some ⟨w.heap.size, 0, none⟩), w.alloc (.cells cs 58)) := nonrfl rfl

theorem k24 {w : World} {lo hi : Nat} (h1 : lo < 65536) (h2 : hi < 65536) : Brings (Xcall Tryd.prog (Value.func (Fn.func 24) #[] #[]) #[.int .u16 (lo : Int), .int .u16 (hi : Int)] w)
    (fun r => Bel w r.2 ∧ ((mayNew lo hi = false ∧ r.1 = .pointer none) ∨ (mayNew lo hi = true ∧ ∃ b sv, r.1 = .pointer (some ⟨b, 0, none⟩) ∧ Rl r.2 b sv lo hi [] ∧ ∀ k, FootR b sv k → w.heap.size ≤ k))) := by
  refine e24 ?_
  unfold s24
  have cv : ∀ n : Nat, n < 65536 → Qconv Tryd.prog 22 3 (.int .u16 (n : Int)) = some (.int .i64 (n : Int)) := fun n hn => by rw [Qconv_int (k := .i64) (by kernel_rfl), wrap_i64 (by omega) (by omega)]
  simp only [go_sem]
  by_cases c1 : lo = 0
  · have : ((lo : Int) == 0) = true := by simpa using c1
    simp only [this, go_sem]
    exact .ret ⟨Bel.refl _, .inl ⟨by unfold mayNew; simp [c1], rfl⟩⟩
  · have e1 : ((lo : Int) == 0) = false := by simpa using c1
    by_cases c2 : hi < lo
    · have : decide ((hi : Int) < (lo : Int)) = true := by rw [decide_eq_true_iff]; omega
      simp only [e1, this, go_sem]
      exact .ret ⟨Bel.refl _, .inl ⟨new_lt c2, rfl⟩⟩
    · have : decide ((hi : Int) < (lo : Int)) = false := by rw [decide_eq_false_iff_not]; omega
      simp only [e1, this, cv lo h1, cv hi h2, build58a, box58, go_sem]
      refine .ret ⟨(Bel.refl w).alloc _, .inr ⟨by unfold mayNew; simp [c1]; omega, w.heap.size, _, rfl, ⟨⟨by omega, by omega, h2, List.Pairwise.nil, fun u hu => by cases hu⟩, (MapKept.heap_alloc w _).1, OwnN.nil _, fun q hq => by cases hq⟩, fun k hk => ?_⟩⟩
      rcases hk with hk | hk
      · omega
      · cases hk

theorem k21 {w : World} {b lo hi : Nat} {sv : Value} {U : List Nat} (h : Rl w b sv lo hi U) : Brings (Xcall Tryd.prog (Value.func (Fn.func 21) #[] #[]) #[.pointer (some ⟨b, 0, none⟩)] w) (fun r => ∃ c tv, r.1 = .pointer (some ⟨c, 0, none⟩) ∧ Bel w r.2 ∧ Rl r.2 c tv lo hi U ∧ ∀ k, FootR c tv k → w.heap.size ≤ k) := by
  refine e21 ?_
  unfold s21
  have bd : Bel w w.drew := (Bel.refl _).drew
  have h1 := h.bel bd
  obtain ⟨s, w2, e2, b2, v, w3, e3, F3⟩ := t56.copy h1.own.view (by rw [toI_len]; have := h.small; omega)
  have h2 := h1.bel b2
  have h3 := h1.bel F3.1
  have hv := F3.2.1.slice
  have sv3 : ∃ x n c, v = .slice x n c := hv
  obtain ⟨x, n, c, hx⟩ := sv3
  have bs : Qbuild Tryd.prog 58 #[(0, .int .i64 (lo : Int)), (1, .int .i64 (hi : Int)), (2, v)] w3 = some (.agg #[.int .i64 (lo : Int), .int .i64 (hi : Int), v]) := by rw [hx]; exact build58b lo hi x n c w3
  simp only [go_sem, Qb_eqlP (P := Tryd.prog) (t := 25) (e := 58) ptr25, Option.isNone_some, fa58x0, fa58x1, fa58x2, h1.lo_, h1.hi_, h2.lo_, h2.hi_, h3.lo_, h3.hi_, h1.l_, h2.l_, e2, e3, bs, box58, eq_self, and_self]
  have b3 := bd.trans F3.1
  have ba : Bel w3 (w3.alloc (.cells #[.int .i64 (lo : Int), .int .i64 (hi : Int), v] 58)) := (Bel.refl _).alloc _
  have sz := b3.size
  have sd := bd.size
  refine .ret ⟨w3.heap.size, v, rfl, b3.trans ba, ⟨h.bnd, (MapKept.heap_alloc w3 _).1, F3.2.1.bel ba, fun q hq => ?_⟩, fun k hk => ?_⟩
  · have := F3.2.1.lt hq; omega
  · rcases hk with hk | hk
    · omega
    · have := F3.2.2 k hk; omega

/-! ## Both -/

/-- Two pools of the same, apart from each other. -/
structure Two (w : World) (a b : Nat) (sv : Value) (lo hi : Nat) (U : List Nat) : Prop where
  A : Pl w a lo hi U
  B : Rl w b sv lo hi U
  dis : ¬ FootR b sv a

theorem Two.chg {S : Nat → Prop} {w w' : World} {a b lo hi : Nat} {sv : Value} {U : List Nat} (h : Two w a b sv lo hi U) (hc : Chg S w w') (ha : ¬ S a) (hs : ∀ k, FootR b sv k → ¬ S k) : Two w' a b sv lo hi U := ⟨h.A.chg hc ha, h.B.chg hc hs, h.dis⟩
theorem Two.bel {w w' : World} {a b lo hi : Nat} {sv : Value} {U : List Nat} (h : Two w a b sv lo hi U) (hb : Bel w w') : Two w' a b sv lo hi U := ⟨h.A.bel hb, h.B.bel hb, h.dis⟩

/-- A deed is done on both. -/
def Both (w : World) (a b : Nat) (sv : Value) (lo hi : Nat) (U : List Nat) (r : Value × World) : Prop :=
  r.1 = .bool true ∧ Chg (fun k => k = a ∨ k = b) w r.2 ∧ ∃ sv', Two r.2 a b sv' lo hi U ∧ ∀ k, FootR b sv' k → FootR b sv k ∨ w.heap.size ≤ k

theorem both_of {w w1 w2 w3 : World} {a b lo hi : Nat} {sv : Value} {U U' : List Nat} (h : Two w a b sv lo hi U) (hb : Bel w w1) (c2 : Chg (fun k => k = a) w1 w2) (p2 : Pl w2 a lo hi U') (N : NewR w2 b sv lo hi U' w3) : Both w a b sv lo hi U' (.bool true, w3) := by
  obtain ⟨c3, s3, r3, f3⟩ := N
  have s1 := hb.size
  have s2 := c2.size
  have la := p2.lt
  have hab : ¬ a = b := fun e => h.dis (.inl e)
  refine ⟨rfl, (hb.thenChg (c2.mono fun k _ hk => .inl hk)).trans (c3.mono fun k _ hk => .inr hk) fun _ _ h => h, s3, ⟨p2.chg c3 hab, r3, fun hf => ?_⟩, fun k hk => (f3 k hk).imp id fun h => by omega⟩
  rcases f3 a hf with h1 | h1
  · exact h.dis h1
  · omega

def deedN (lo hi : Nat) (U : List Nat) (x : Deed) : List Nat :=
  if x.kind = 0 then (takeN lo hi U x.n.toNat 1).2 else if x.kind = 1 then (takeN lo hi U x.n.toNat 2).2 else if x.kind = 2 then (giveN U x.n.toNat).2 else U

theorem k22 {w : World} {a b lo hi : Nat} {sv : Value} {U : List Nat} {x : Deed} (h : Two w a b sv lo hi U) (hx : x.ok) :
    Brings (Xcall Tryd.prog (Value.func (Fn.func 22) #[] #[]) #[.pointer (some ⟨a, 0, none⟩), .pointer (some ⟨b, 0, none⟩), x.v] w) (Both w a b sv lo hi (deedN lo hi U x)) := by
  refine e22 ?_
  unfold s22 deedN
  obtain ⟨n, hn, hn16⟩ := wf_u (k := .u16) rfl hx.2
  have hn16 : n < 65536 := hn16
  have A := x.new w
  have hb : Bel w (w.alloc (.cells x.cs.toArray 29)) := (Bel.refl w).alloc _
  have la := h.A.lt
  have lb := h.B.lt b (.inl rfl)
  have dis := h.dis
  have hab : ¬ b = a := fun e => dis (.inl e.symm)
  have fa : ∀ k, FootR b sv k → ¬ k = a := fun k hk e => dis (e ▸ hk)
  rw [x.box]
  simp only [go_sem, Deed.b0 A]
  have na : ¬ w.heap.size = a := by omega
  generalize w.alloc (.cells x.cs.toArray 29) = w0 at A hb
  have h0 := h.bel hb
  have bd : Bel w0 w0.drew := (Bel.refl _).drew
  have h1 := h0.bel bd
  have A1 := A.bel bd
  generalize w.heap.size = q at A A1 na
  refine .cond (fun k0 => ?_) (fun k0 => ?_)
  · have k0 : x.kind = 0 := by simpa using k0
    simp only [k0, if_true, Deed.f1 A, hn, Int.toNat_natCast, go_sem]
    refine (k15 h0.A hn16).bind ?_
    rintro ⟨_, w2⟩ ⟨e1, c2, p2⟩
    simp only at e1 c2 p2
    subst e1
    have A2 := A.chg c2 na
    simp only [Deed.f1 A2, hn, go_sem]
    refine (k30 (h0.B.chg c2 fa) hn16).bind ?_
    rintro ⟨_, w3⟩ ⟨e1, N⟩
    simp only at e1 N
    subst e1
    simp only [beq_self_eq_true, go_sem]
    exact .ret (both_of h hb c2 p2 N)
  have k0 : ¬ x.kind = 0 := by simpa using k0
  refine .cond (fun k1 => ?_) (fun k1 => ?_)
  · have k1 : x.kind = 1 := by simpa using k1
    simp only [k1, show ¬ (1 : Int) = 0 by decide, if_true, if_false, Deed.f1 A, hn, Int.toNat_natCast, go_sem]
    refine (k19 h0.A hn16).bind ?_
    rintro ⟨_, w2⟩ ⟨e1, c2, p2⟩
    simp only at e1 c2 p2
    subst e1
    have A2 := A.chg c2 na
    simp only [Deed.f1 A2, hn, go_sem]
    refine (k31 (h0.B.chg c2 fa) hn16).bind ?_
    rintro ⟨_, w3⟩ ⟨e1, N⟩
    simp only at e1 N
    subst e1
    simp only [beq_self_eq_true, go_sem]
    exact .ret (both_of h hb c2 p2 N)
  have k1 : ¬ x.kind = 1 := by simpa using k1
  refine .cond (fun k2 => ?_) (fun k2 => ?_)
  · have k2 : x.kind = 2 := by simpa using k2
    simp only [k2, show ¬ (2 : Int) = 0 by decide, show ¬ (2 : Int) = 1 by decide, if_true, if_false, Deed.f1 A1, hn, Int.toNat_natCast, go_sem]
    refine (k18 h1.A hn16).bind ?_
    rintro ⟨_, w2⟩ ⟨e1, c2, p2⟩
    simp only at e1 c2 p2
    subst e1
    have A2 := A1.chg c2 na
    simp only [Deed.f1 A2, hn, go_sem]
    refine (k32 (h1.B.chg c2 fa) hn16).bind ?_
    rintro ⟨_, w3⟩ ⟨e1, N⟩
    simp only at e1 N
    subst e1
    simp only [beq_self_eq_true, eq_self, and_self, go_sem]
    exact .ret (both_of h (hb.trans bd) c2 p2 N)
  · have k2 : ¬ x.kind = 2 := by simpa using k2
    simp only [k0, k1, k2, if_false]
    exact .ret ⟨rfl, .of_bel hb _, sv, h0, fun k hk => .inl hk⟩

theorem k13 {w : World} {a b lo hi n : Nat} {sv : Value} {U : List Nat} (hT : Tab w) (h : Two w a b sv lo hi U) (hn : n < 65536) : Brings (Xcall Tryd.prog (Value.func (Fn.func 13) #[] #[]) #[.pointer (some ⟨a, 0, none⟩), .pointer (some ⟨b, 0, none⟩), .int .u16 (n : Int)] w) (fun r => r.1 = .bool true ∧ Bel w r.2) := by
  refine e13 ?_
  unfold s13
  refine (k17 hT h.A).bind ?_
  rintro ⟨v1, w1⟩ F1
  simp only at F1 ⊢
  have h1 := h.bel F1.1
  refine (k25 h1.B).bind ?_
  rintro ⟨v2, w2⟩ F2
  simp only at F2 ⊢
  have h2 := h1.bel F2.1
  have o1 := F1.2.1.bel F2.1
  simp only [t33.len o1.view, t33.len F2.2.1.view, bne_self_eq_false, go_sem]
  refine (k14 ((hT.bel F1.1).bel F2.1) h2.A).bind ?_
  rintro ⟨_, w3⟩ ⟨e1, b3⟩
  simp only at e1 b3
  subst e1
  simp only
  refine (k26 (h2.B.bel b3)).bind ?_
  rintro ⟨_, w4⟩ ⟨e1, b4⟩
  simp only at e1 b4
  subst e1
  simp only [bne_self_eq_false, go_sem]
  have h4 := (h2.bel b3).bel b4
  refine (k16 h4.A hn).bind ?_
  rintro _ rfl
  simp only
  refine (k27 h4.B hn).bind ?_
  rintro _ rfl
  simp only [Qb_neqB (P := Tryd.prog) (t := 4) (by kernel_rfl), bne_self_eq_false, go_sem]
  have p1 := (o1.bel b3).bel b4
  have p2 := (F2.2.1.bel b3).bel b4
  have hU : (toI U).length ≤ 65536 := by rw [toI_len]; exact h.B.small
  have B0 := ((F1.1.trans F2.1).trans b3).trans b4
  refine Brings.loop (fun m xs w' => ∃ i : Nat, xs = [.bool false, v1, v2, .int .i64 (i : Int)] ∧ i ≤ (toI U).length ∧ m = (toI U).length - i ∧ Bel w4 w') ?_ (toI U).length _ _
    ⟨0, rfl, by omega, by omega, Bel.refl _⟩
  rintro m xs w' ⟨i, rfl, hi', hm, hb⟩
  simp only [s13B0, t33.len p1.view, go_sem]
  refine .cond (fun hlt => ?_) (fun hlt => ?_)
  · have hlt : i < (toI U).length := by
      have : (i : Int) < (toI U).length := by simpa using hlt
      omega
    have hd : Bel w4 w'.drew := hb.drew
    obtain ⟨x, q, hx, hix, hld⟩ := t33.get (p1.bel hd).view hlt
    obtain ⟨y, q2, hy, hiy, hld2⟩ := t33.get (p2.bel hd).view hlt
    rw [hx] at hy
    injection hy with hy
    subst hy
    simp only [hix, hld, hiy, hld2, bne_self_eq_false, go_sem]
    rw [wrap_i64 (by omega) (by omega)]
    exact .ret (.inl ⟨rfl, (toI U).length - (i + 1), by omega, i + 1, rfl, by omega, rfl, hd⟩)
  · exact .ret (.inr ⟨by simp, .ret ⟨rfl, B0.trans hb⟩⟩)

theorem k12 {w : World} (hT : Tab w) : Brings (Xcall Tryd.prog (Value.func (Fn.func 12) #[] #[]) #[] w) (fun r => r.1 = .bool true ∧ Bel w r.2) := by
  refine e12 ?_
  unfold s12
  refine (k23 (lo := 5) (hi := 8) (by omega) (by omega)).bind ?_
  rintro ⟨_, w1⟩ ⟨b1, ⟨hn, _⟩ | ⟨_, a, h1, ha, p1⟩⟩
  · exact absurd hn (by decide)
  simp only at b1 h1 p1
  subst h1
  simp only
  refine (k15 (n := 7) p1 (by omega)).bind ?_
  rintro ⟨_, w2⟩ ⟨e2, c2, p2⟩
  have t2 : takeN 5 8 [] 7 1 = ((7, 0), [7]) := by decide +kernel
  simp only [t2] at e2 c2 p2
  subst e2
  simp only [go_sem]
  refine (k19 (n := 5) p2 (by omega)).bind ?_
  rintro ⟨_, w3⟩ ⟨e3, c3, p3⟩
  have t3 : takeN 5 8 [7] 5 2 = ((0, 9), [7]) := by decide +kernel
  simp only [t3] at e3 c3 p3
  subst e3
  simp only [go_sem]
  refine (k15 (n := 7) p3 (by omega)).bind ?_
  rintro ⟨_, w4⟩ ⟨e4, c4, p4⟩
  have t4 : takeN 5 8 [7] 7 1 = ((5, 0), [5, 7]) := by decide +kernel
  simp only [t4] at e4 c4 p4
  subst e4
  have B : Bel w w4 := (b1.thenChg ((c2.trans c3 fun _ _ h => h).trans c4 fun _ _ h => h)).bel fun k hk e => by omega
  simp only [go_sem, show (((7 : Nat) : Int) == 7) = true from rfl, show (((0 : Nat) : Int) == 0) = true from rfl, show (((5 : Nat) : Int) == 5) = true from rfl, show ((9 : Int) == 9) = true from rfl, show ((0 : Int) == 0) = true from rfl]
  refine (k14 (hT.bel B) p4).bind ?_
  rintro ⟨_, w5⟩ ⟨e5, b5⟩
  simp only at e5 b5
  subst e5
  simp only [go_sem]
  exact .ret ⟨rfl, B.trans b5⟩

/-- The range that is played over. -/
def rangeN (low size : Nat) : Nat × Nat := if low = 0 ∨ (low + size % 200) % 65536 < low then (10, 20) else (low, (low + size % 200) % 65536)
theorem range_ok (low size : Nat) (hl : low < 65536) : mayNew (rangeN low size).1 (rangeN low size).2 = true ∧ (rangeN low size).1 < 65536 ∧ (rangeN low size).2 < 65536 := by
  unfold rangeN
  split
  · exact ⟨by decide, by decide, by decide⟩
  · next h =>
    rw [not_or] at h
    refine ⟨?_, hl, Nat.mod_lt _ (by omega)⟩
    unfold mayNew
    simp only [Bool.and_eq_true, decide_eq_true_eq]
    exact ⟨h.1, by have := h.2; show low ≤ (low + size % 200) % 65536; omega⟩

/-- The pools behind deeds. -/
def deedsN (lo hi : Nat) (U : List Nat) (ds : List Deed) : List Nat := ds.foldl (deedN lo hi) U
theorem und23 : Tryd.prog.underlying 23 = some (.slice 29) := by kernel_rfl

def Played (w : World) (lo hi : Nat) (U : List Nat) (r : Value × World) : Prop :=
  ∃ a b sv, r.1 = .tuple #[.pointer (some ⟨a, 0, none⟩), .pointer (some ⟨b, 0, none⟩), .bool true] ∧ Bel w r.2 ∧ Two r.2 a b sv lo hi U ∧ w.heap.size ≤ a ∧ ∀ k, FootR b sv k → w.heap.size ≤ k

theorem m11 {w : World} {lo hi : Nat} {s : Value} {ds : List Deed} (hm : mayNew lo hi = true) (hl : lo < 65536) (hh : hi < 65536) (hv : View Deed.cs 2 w s ds) (hok : ∀ x ∈ ds, x.ok) :
    Brings (s11M0 (.int .u16 (lo : Int)) s (.pointer none) (.pointer none) (.bool false) (.int .u16 (hi : Int)) w) (Played w lo hi (deedsN lo hi [] (ds.take 100))) := by
  unfold s11M0
  refine (k23 hl hh).bind ?_
  rintro ⟨_, w1⟩ ⟨b1, ⟨hn, _⟩ | ⟨_, a, h1, fa, oa⟩⟩
  · rw [hm] at hn; cases hn
  simp only at h1 b1 oa
  subst h1
  simp only
  refine (k24 hl hh).bind ?_
  rintro ⟨_, w2⟩ ⟨b2, ⟨hn, _⟩ | ⟨_, b, sb, h1, ob, fb⟩⟩
  · rw [hm] at hn; cases hn
  simp only at h1 b2 ob
  subst h1
  simp only
  have T0 : Two w2 a b sb lo hi [] := ⟨oa.bel b2, ob, fun hf => by have := oa.lt; have := fb a hf; omega⟩
  have s1 := b1.size
  have h63 := hv.small
  simp only [maxLen] at h63
  refine Brings.loop (fun m xs w' => ∃ (i : Nat) (tb : Value), xs = [s, .pointer none, .pointer none, .bool false, .pointer (some ⟨a, 0, none⟩), .pointer (some ⟨b, 0, none⟩), .int .i64 i] ∧ i ≤ ds.length ∧ i ≤ 100 ∧ m = 100 - i ∧ Bel w w' ∧ Two w' a b tb lo hi (deedsN lo hi [] (ds.take i)) ∧ ∀ k, FootR b tb k → w.heap.size ≤ k) ?_ 100 _ _
    ⟨0, sb, rfl, by omega, by omega, by omega, b1.trans b2, by simpa [deedsN] using T0, fun k hk => by have := fb k hk; omega⟩
  rintro m xs w' ⟨i, tb, rfl, hi', hi60, hm', hb, T, hb'⟩
  simp only [s11B1, hv.len und23, go_sem]
  have fin : ¬ (i < ds.length ∧ i < 100) → Brings (s11R1 (.exit 0) [s, .pointer none, .pointer none, .bool false, .pointer (some ⟨a, 0, none⟩), .pointer (some ⟨b, 0, none⟩), .int .i64 i] w') (Played w lo hi (deedsN lo hi [] (ds.take 100))) := fun hn => by
    have : ds.take 100 = ds.take i := by
      rcases Nat.lt_or_ge i 100 with h | h
      · have : i = ds.length := by omega
        subst this
        rw [List.take_length, List.take_of_length_le (by omega)]
      · rw [show i = 100 by omega]
    rw [this]
    exact .ret ⟨a, b, tb, rfl, hb, T, fa, hb'⟩
  by_cases h1 : i < ds.length
  · have e1 : decide ((i : Int) < ds.length) = true := by rw [decide_eq_true_iff]; omega
    by_cases h2 : i < 100
    · have e2 : decide ((i : Int) < 100) = true := by rw [decide_eq_true_iff]; omega
      simp only [e1, e2, go_sem]
      obtain ⟨t, ht, hts⟩ := inf29
      obtain ⟨x, g, o, hx, _, hix, hc⟩ := (hv.bel hb).get und23 ht hts (n := i) (by omega) (by omega)
      simp only [Int.toNat_natCast] at hx
      simp only [hix, Deed.all hc, go_sem]
      refine (k22 T (hok x (List.mem_of_getElem? hx))).bind ?_
      rintro ⟨_, w3⟩ ⟨e3, c3, tb', T3, g3⟩
      simp only at e3 c3 T3
      subst e3
      have sz := hb.size
      simp only [go_sem, Bool.not_true]
      refine .ret (.inl ⟨rfl, 100 - (i + 1), by omega, i + 1, tb', by rw [wrap_i64 (by omega) (by omega)]; rfl, by omega, by omega, rfl, ?_, ?_, ?_⟩)
      · refine (hb.thenChg c3).bel fun k hk h => ?_
        rcases h with h | h
        · omega
        · have := hb' k (.inl h); omega
      · have : ds.take (i + 1) = ds.take i ++ [x] := by rw [List.take_add_one, hx]; rfl
        rw [this]
        unfold deedsN at T3 ⊢
        rw [List.foldl_append]
        exact T3
      · intro k hk
        rcases g3 k hk with h | h
        · exact hb' k h
        · omega
    · have e2 : decide ((i : Int) < 100) = false := by rw [decide_eq_false_iff_not]; omega
      simp only [e1, e2, go_sem]
      exact .ret (.inr ⟨by simp, fin (by omega)⟩)
  · have e1 : decide ((i : Int) < ds.length) = false := by rw [decide_eq_false_iff_not]; omega
    simp only [e1, go_sem]
    exact .ret (.inr ⟨by simp, fin (by omega)⟩)

theorem k11 {w : World} {low size : Nat} {s : Value} {ds : List Deed} (hl : low < 65536) (hs : size < 65536) (hv : View Deed.cs 2 w s ds) (hok : ∀ x ∈ ds, x.ok) :
    Brings (Xcall Tryd.prog (Value.func (Fn.func 11) #[] #[]) #[.int .u16 (low : Int), .int .u16 (size : Int), s] w) (Played w (rangeN low size).1 (rangeN low size).2 (deedsN (rangeN low size).1 (rangeN low size).2 [] (ds.take 100))) := by
  refine e11 ?_
  unfold s11
  have n200 : (200 : Int) ≠ 0 := by decide
  have d1 : (size : Int).tmod 200 = ((size % 200 : Nat) : Int) := by rw [Int.tmod_eq_emod_of_nonneg (by omega)]; rfl
  have wr : IntKind.u16.wrap ((low : Int) + ((size % 200 : Nat) : Int)) = (((low + size % 200) % 65536 : Nat) : Int) := by
    unfold IntKind.wrap
    simp [IntKind.signed, IntKind.bits]
  obtain ⟨r1, r2, r3⟩ := range_ok low size hl
  simp only [go_sem, Qb_remP n200, d1, wr]
  by_cases c1 : low = 0
  · have e1 : ((low : Int) == 0) = true := by rw [c1]; rfl
    have er : rangeN low size = (10, 20) := by unfold rangeN; rw [if_pos (.inl c1)]
    rw [er] at r1 r2 r3 ⊢
    simp only [e1, go_sem]
    exact m11 r1 r2 r3 hv hok
  · have e1 : ((low : Int) == 0) = false := by rw [beq_eq_false_iff_ne]; omega
    by_cases c2 : (low + size % 200) % 65536 < low
    · have e2 : decide ((((low + size % 200) % 65536 : Nat) : Int) < (low : Int)) = true := by rw [decide_eq_true_iff]; omega
      have er : rangeN low size = (10, 20) := by unfold rangeN; rw [if_pos (.inr c2)]
      rw [er] at r1 r2 r3 ⊢
      simp only [e1, e2, go_sem]
      exact m11 r1 r2 r3 hv hok
    · have e2 : decide ((((low + size % 200) % 65536 : Nat) : Int) < (low : Int)) = false := by rw [decide_eq_false_iff_not]; omega
      have er : rangeN low size = (low, (low + size % 200) % 65536) := by unfold rangeN; rw [if_neg (by rw [not_or]; exact ⟨c1, c2⟩)]
      rw [er] at r1 r2 r3 ⊢
      simp only [e1, e2, go_sem]
      exact m11 r1 r2 r3 hv hok

end Go.Proofs.YtebhknagnkcldaaDoor
