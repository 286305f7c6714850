/- Laws: a nil book; what is expected comes once. -/
import Derived.Test.YtnnhfnjdcomjmaaEx11
namespace Go.Proofs.Ytnnhfnjdcomjmaa
open Go Go.Ev Go.RowKit
open Go.Proofs

theorem k13n {w : World} {x : Exp} : Brings (Xcall Try.prog (Value.func (Fn.func 13) #[] #[]) #[.pointer none, x.v] w) (fun r => r.1 = .int .i64 1 ∧ Bel w r.2) := by
  refine e13 ?_
  unfold s13
  rw [x.box]
  simp only [go_sem, Qb_eqlP (P := Try.prog) (t := 26) (e := 58) ptr26, Option.isNone_none]
  exact .ret ⟨rfl, (Bel.refl w).alloc _⟩
theorem k37n {w : World} {t : Tup} {now : Int} : Brings (Xcall Try.prog (Value.func (Fn.func 37) #[] #[]) #[.pointer none, t.v, .int .i64 now] w) (fun r => r.1 = .int .i64 (-1) ∧ Bel w r.2) := by
  refine e37 ?_
  unfold s37
  rw [t.box]
  simp only [go_sem, Qb_eqlP (P := Try.prog) (t := 26) (e := 58) ptr26, Option.isNone_none]
  exact .ret ⟨rfl, ((Bel.refl w).alloc _).alloc _⟩
theorem k20n {w : World} {t : Tup} {now : Int} : Brings (Xcall Try.prog (Value.func (Fn.func 20) #[] #[]) #[.pointer none, t.v, .int .i64 now] w) (Told w (Exp.zero, false)) := by
  refine e20 ?_
  unfold s20
  rw [t.box]
  have V0 := Locals.nil w
  have V1 := V0.add rfl (.cells t.cs.toArray 37)
  have V2 := V1.add (by simp) (.cells Exp.zero.cs.toArray 25)
  simp only [go_sem, alloc25, World.size_alloc]
  generalize (w.alloc (.cells t.cs.toArray 37)).alloc (.cells Exp.zero.cs.toArray 25) = w2 at V2
  have T : CellsAt t.cs w2 w.heap.size 0 := CellsAt.of (V2.at_ 0 _ rfl)
  simp only [Tup.all T, go_sem]
  refine k37n.bind ?_
  rintro ⟨_, w3⟩ ⟨e1, b3⟩
  simp only at e1 b3
  subst e1
  have V3 := V2.later b3
  have hz : w3.heap[w.heap.size + 1]? = some (.cells Exp.zero.cs.toArray 25) := V3.at_ 1 _ rfl
  have : decide ((0 : Int) ≤ -1) = false := by decide
  simp only [this, go_sem, build25n, store25 hz rfl, Exp.all (CellsAt.of (setRow_heap _ _ _ _ _ _ hz))]
  exact .ret ⟨rfl, (V3.row (j := 1) rfl rfl _).bel⟩
theorem k21n {w : World} {t : Tup} {now : Int} : Brings (Xcall Try.prog (Value.func (Fn.func 21) #[] #[]) #[.pointer none, t.v, .int .i64 now] w) (Told w (Exp.zero, false)) := by
  refine e21 ?_
  unfold s21
  rw [t.box]
  have V0 := Locals.nil w
  have V1 := V0.add rfl (.cells t.cs.toArray 37)
  have V2 := V1.add (by simp) (.cells Exp.zero.cs.toArray 25)
  simp only [go_sem, alloc25, World.size_alloc]
  generalize (w.alloc (.cells t.cs.toArray 37)).alloc (.cells Exp.zero.cs.toArray 25) = w2 at V2
  have T : CellsAt t.cs w2 w.heap.size 0 := CellsAt.of (V2.at_ 0 _ rfl)
  simp only [Tup.all T, go_sem]
  refine k20n.bind ?_
  rintro ⟨_, w3⟩ ⟨e1, b3⟩
  simp only at e1 b3
  subst e1
  have B := local_bel w3 (.cells Exp.zero.cs.toArray 25) Exp.zero.cs.toArray
  have X := local_at w3 Exp.zero.cs Exp.zero.cs 25
  have V4 := (V2.later b3).later B
  simp only [put25, go_sem]
  generalize (w3.alloc (.cells Exp.zero.cs.toArray 25)).setRow w3.heap.size Exp.zero.cs.toArray = w4 at X V4
  have hz4 : w4.heap[w.heap.size + 1]? = some (.cells Exp.zero.cs.toArray 25) := V4.at_ 1 _ rfl
  simp only [go_sem, Exp.all X, store25 hz4 rfl, Exp.all (CellsAt.of (setRow_heap _ _ _ _ _ _ hz4))]
  exact .ret ⟨rfl, (V4.row (j := 1) rfl rfl _).bel⟩
theorem k39n {w : World} {f : Value} : Brings (Xcall Try.prog (Value.func (Fn.func 39) #[] #[]) #[.pointer none, f] w) (fun r => r = (.slice none 0 0, w)) := by
  refine e39 ?_
  unfold s39
  simp only [go_sem, Qb_eqlP (P := Try.prog) (t := 26) (e := 58) ptr26, Option.isNone_none]
  exact .ret rfl
theorem k22n {w : World} {m : Int} : Brings (Xcall Try.prog (Value.func (Fn.func 22) #[] #[]) #[.pointer none, .int .i64 m] w) (fun r => r.1 = .slice none 0 0 ∧ Bel w r.2) := by
  refine e22 ?_
  unfold s22
  simp only [go_sem]
  refine k39n.bind ?_
  rintro _ rfl
  exact .ret ⟨rfl, (Bel.refl w).alloc _⟩
theorem k23n {w : World} {m : Int} : Brings (Xcall Try.prog (Value.func (Fn.func 23) #[] #[]) #[.pointer none, .int .i64 m] w) (fun r => r.1 = .slice none 0 0 ∧ Bel w r.2) := by
  refine e23 ?_
  unfold s23
  simp only [go_sem]
  refine k39n.bind ?_
  rintro _ rfl
  exact .ret ⟨rfl, (Bel.refl w).alloc _⟩
theorem k17n {w : World} : Brings (Xcall Try.prog (Value.func (Fn.func 17) #[] #[]) #[.pointer none] w) (fun r => r = (.slice none 0 0, w)) := by
  refine e17 ?_
  unfold s17
  simp only [go_sem, Qb_eqlP (P := Try.prog) (t := 26) (e := 58) ptr26, Option.isNone_none]
  exact .ret rfl
theorem k25n {w : World} : Brings (Xcall Try.prog (Value.func (Fn.func 25) #[] #[]) #[.pointer none] w) (fun r => r = (.pointer none, w)) := by
  refine e25 ?_
  unfold s25
  simp only [go_sem, Qb_eqlP (P := Try.prog) (t := 26) (e := 58) ptr26, Option.isNone_none]
  exact .ret rfl

theorem l10 {w : World} {x : Deed} : Brings (s10 x.v w) (Yes w) := by
  unfold s10
  have D := x.new w
  have hb : Bel w (w.alloc (.cells x.cs.toArray 39)) := (Bel.refl w).alloc _
  rw [x.box]
  simp only [go_sem]
  generalize w.alloc (.cells x.cs.toArray 39) = w1 at D hb
  generalize w.heap.size = p at D
  simp only [Tup.all (Deed.in2 D), Deed.b3 D, go_sem]
  refine k21n.bind ?_
  rintro ⟨_, w2⟩ ⟨h1, b2⟩
  simp only at h1 b2
  subst h1
  have B := local_bel w2 (.cells Exp.zero.cs.toArray 25) Exp.zero.cs.toArray
  have X1 := local_at w2 Exp.zero.cs Exp.zero.cs 25
  simp only [alloc25, put25, go_sem]
  have B2 := b2.trans B
  clear B b2
  generalize (w2.alloc (.cells Exp.zero.cs.toArray 25)).setRow w2.heap.size Exp.zero.cs.toArray = w3 at X1 B2
  have D3 := D.bel B2
  simp only [Tup.all (Deed.in2 D3), Deed.b3 D3, go_sem]
  refine k20n.bind ?_
  rintro ⟨_, w4⟩ ⟨h1, b4⟩
  simp only at h1 b4
  subst h1
  have B := local_bel w4 (.cells Exp.zero.cs.toArray 25) Exp.zero.cs.toArray
  have X2 := local_at w4 Exp.zero.cs Exp.zero.cs 25
  simp only [put25, go_sem]
  have B4 := (B2.trans b4).trans B
  have X1 := (X1.bel b4).bel B
  clear B b4
  generalize (w4.alloc (.cells Exp.zero.cs.toArray 25)).setRow w4.heap.size Exp.zero.cs.toArray = w5 at X1 X2 B4
  refine k15.bind ?_
  rintro ⟨_, w6⟩ ⟨h1, b6⟩
  simp only at h1 b6
  subst h1
  have B6 := B4.trans b6
  have D6 := D.bel B6
  simp only [go_sem, Exp.all (Deed.in1 D6)]
  refine k13n.bind ?_
  rintro ⟨_, w7⟩ ⟨h1, b7⟩
  simp only at h1 b7
  subst h1
  have X1 := X1.bel (b6.trans b7)
  have X2 := X2.bel (b6.trans b7)
  have D7 := D6.bel b7
  simp only [go_sem, beq_self_eq_true, Exp.all X1, Exp.all X2, build25n, Exp.eql, decide_true, Bool.not_false, Deed.b3 D7]
  refine k22n.bind ?_
  rintro ⟨_, w8⟩ ⟨h1, b8⟩
  simp only at h1 b8
  subst h1
  simp only [go_sem, Qlen_slice und32, show (((0 : Nat) : Int) == 0) = true from rfl, Deed.b3 (D7.bel b8)]
  refine k23n.bind ?_
  rintro ⟨_, w9⟩ ⟨h1, b9⟩
  simp only at h1 b9
  subst h1
  simp only [go_sem, Qlen_slice und32, show (((0 : Nat) : Int) == 0) = true from rfl]
  refine k17n.bind ?_
  rintro _ rfl
  simp only [go_sem, Qlen_slice und32, show (((0 : Nat) : Int) == 0) = true from rfl]
  refine k25n.bind ?_
  rintro _ rfl
  simp only [go_sem, Qb_eqlP (P := Try.prog) (t := 26) (e := 58) ptr26, Option.isNone_none]
  exact .ret ⟨rfl, (((hb.trans B6).trans b7).trans b8).trans b9⟩

theorem law10 {v0 : Value} {n0 : Nat} {w : World} {r0 : Reach} {b0 : Nat} (ho0 : Value.okWide Try.prog w r0 b0 39 v0) (h0 : Okc Try.prog w n0 39 v0.cells.toList) :
    Calls Try.prog 10 #[v0] w fun e w' => e = .returned (.bool true) ∧ Below w.heap.size w w' := by
  obtain ⟨x, rfl, hx⟩ := open39 ho0 h0
  exact law_of l10 fun _ => c10

end Go.Proofs.Ytnnhfnjdcomjmaa
