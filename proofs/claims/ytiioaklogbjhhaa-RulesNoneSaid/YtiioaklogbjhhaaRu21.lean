/- Law: nil rules answer so. -/
import Derived.Test.YtiioaklogbjhhaaRu20
namespace Go.Proofs.Ytiioaklogbjhhaa
open Go Go.Ev Go.RowKit
open Go.Proofs

theorem k12n {w : World} {x : Rule} : Brings (Xcall Try.prog (Value.func (Fn.func 12) #[] #[]) #[.pointer none, x.v] w) (fun r => r.1 = .int .i64 1 ∧ Bel w r.2) := by
  refine e12 ?_
  unfold s12
  rw [x.box]
  simp only [go_sem, Qb_eqlP (P := Try.prog) (t := 27) (e := 60) (by kernel_rfl), Option.isNone_none]
  exact .ret ⟨rfl, (Bel.refl w).alloc _⟩
theorem k20n {w : World} {i : Int} : Brings (Xcall Try.prog (Value.func (Fn.func 20) #[] #[]) #[.pointer none, .int .i64 i] w) (fun r => r = (.int .i64 1, w)) := by
  refine e20 ?_
  unfold s20
  simp only [go_sem, Qb_eqlP (P := Try.prog) (t := 27) (e := 60) (by kernel_rfl), Option.isNone_none]
  exact .ret rfl
theorem k16n {w : World} : Brings (Xcall Try.prog (Value.func (Fn.func 16) #[] #[]) #[.pointer none] w) (fun r => r = (.slice none 0 0, w)) := by
  refine e16 ?_
  unfold s16
  simp only [go_sem, Qb_eqlP (P := Try.prog) (t := 27) (e := 60) (by kernel_rfl), Option.isNone_none]
  exact .ret rfl
theorem k23n {w : World} : Brings (Xcall Try.prog (Value.func (Fn.func 23) #[] #[]) #[.pointer none] w) (fun r => r = (.pointer none, w)) := by
  refine e23 ?_
  unfold s23
  simp only [go_sem, Qb_eqlP (P := Try.prog) (t := 27) (e := 60) (by kernel_rfl), Option.isNone_none]
  exact .ret rfl

theorem k31n {w : World} {fn : Fn} {fc : Array Value} {p q : Nat} (hp : w.cell? ⟨p, 0, none⟩ = some (.pointer none)) :
    Brings (Xcall Try.prog (Value.func (Fn.func 31) #[] #[]) #[.func (.func 42) #[] #[.pointer (some ⟨p, 0, none⟩), .pointer (some ⟨q, 0, none⟩)], .func fn #[] fc] w) (Told w (Rule.zero, false)) := by
  refine e31 ?_
  unfold s31
  rw [Xbox_eq]
  simp only [go_sem, alloc26, alloc4, World.size_alloc]
  rw [show w.heap.size + 1 + 1 = w.heap.size + 2 from rfl]
  have V0 := Locals.nil w
  have V1 := V0.add rfl (.cells #[.func fn #[] fc] 31)
  have V2 := V1.add (by simp) (.cells Rule.zero.cs.toArray 26)
  have V3 := V2.add (by simp) (.cells #[.bool false] 4)
  have hs3 : (((w.alloc (.cells #[.func fn #[] fc] 31)).alloc (.cells Rule.zero.cs.toArray 26)).alloc (.cells #[.bool false] 4)).heap.size = w.heap.size + 3 := by simp
  generalize ((w.alloc (.cells #[.func fn #[] fc] 31)).alloc (.cells Rule.zero.cs.toArray 26)).alloc (.cells #[.bool false] 4) = w3 at V3 hs3
  refine Brings.range (f := 42) (fd := Try.f42) Try.func42 (by kernel_rfl) (by kernel_rfl) (K := fun e d w' => s31G0R (.pointer (some ⟨w.heap.size + 1, 0, none⟩)) (.pointer (some ⟨w.heap.size + 2, 0, none⟩)) d w' e) ?_
  have V4 : Locals w (vars31 (.func fn #[] fc) Rule.zero false (loop31 w3 (.func (.func 42) #[] #[.pointer (some ⟨p, 0, none⟩), .pointer (some ⟨q, 0, none⟩)]) (.func fn #[] fc) (.pointer (some ⟨w.heap.size, 0, none⟩)) (.pointer (some ⟨w.heap.size + 1, 0, none⟩)) (.pointer (some ⟨w.heap.size + 2, 0, none⟩)))) (enterW w3 31 _ _ _ _) :=
    (V3.add (by rw [hs3]; rfl) (.deferred (some []))).add (by rw [World.size_alloc, hs3]; rfl) (.loop _)
  rw [hs3, show w.heap.size + 3 + 1 = w.heap.size + 4 from rfl]
  generalize enterW w3 31 _ _ _ _ = w5 at V4
  refine (k42n (V4.bel.cell_some hp)).mono ?_
  rintro _ rfl
  refine ⟨_, .normal, V4.at_ 4 _ rfl, rfl, rfl, ?_⟩
  have V1 := V4.set (j := 4) (show _ < 5 by decide) rfl (.loop { loop31 w3 (.func (.func 42) #[] #[.pointer (some ⟨p, 0, none⟩), .pointer (some ⟨q, 0, none⟩)]) (.func fn #[] fc) (.pointer (some ⟨w.heap.size, 0, none⟩)) (.pointer (some ⟨w.heap.size + 1, 0, none⟩)) (.pointer (some ⟨w.heap.size + 2, 0, none⟩)) with state := .exhausted })
  generalize setB _ (w.heap.size + 4) _ = w1 at V1
  have V2 := V1.row (j := 1) rfl rfl Rule.zero.cs.toArray
  have V3 := V2.row (j := 2) rfl rfl #[.bool false]
  have V4 := V3.set (j := 3) (show _ < 5 by decide) rfl (.deferred none)
  simp only [s31G0R, Rule.all (CellsAt.of (V1.at_ 1 _ rfl)), store26 (V1.at_ 1 _ rfl) rfl, store4 (V2.at_ 2 _ rfl), go_sem]
  rw [takeAll_one (V3.at_ 3 _ rfl)]
  simp only [go_sem, Rule.all (CellsAt.of (V4.at_ 1 _ rfl)), Qload_cell one4 (V4.cell (j := 2) rfl)]
  exact .ret ⟨rfl, V4.bel⟩

theorem k18n {w : World} {n : Int} : Brings (Xcall Try.prog (Value.func (Fn.func 18) #[] #[]) #[.pointer none, .int .u32 n] w) (Told w (Rule.zero, false)) := by
  refine e18 ?_
  unfold s18
  have V0 := Locals.nil w
  have V1 := V0.add rfl (.cells #[.int .u32 n] 23)
  have V2 := V1.add (by simp) (.cells Rule.zero.cs.toArray 26)
  simp only [go_sem, alloc26, World.size_alloc]
  generalize (w.alloc (.cells #[.int .u32 n] 23)).alloc (.cells Rule.zero.cs.toArray 26) = w2 at V2
  refine k32.bind ?_
  rintro ⟨_, w3⟩ ⟨p, q, h1, b3, hp, hq⟩
  simp only at h1 b3 hp hq
  subst h1
  simp only [go_sem]
  refine (k31n hp).bind ?_
  rintro ⟨_, w4⟩ ⟨h1, b4⟩
  simp only at h1 b4
  subst h1
  have V4 := (V2.later b3).later b4
  have hz4 : w4.heap[w.heap.size + 1]? = some (.cells Rule.zero.cs.toArray 26) := V4.at_ 1 _ rfl
  simp only [go_sem, store26 hz4 rfl, Rule.all (CellsAt.of (setRow_heap _ _ _ _ _ _ hz4))]
  exact .ret ⟨rfl, (V4.row (j := 1) rfl rfl _).bel⟩
theorem k19n {w : World} {pr d t : Int} : Brings (Xcall Try.prog (Value.func (Fn.func 19) #[] #[]) #[.pointer none, .int .u8 pr, .int .u32 d, .int .u16 t] w) (Told w (Rule.zero, false)) := by
  refine e19 ?_
  unfold s19
  have V0 := Locals.nil w
  have V1 := V0.add rfl (.cells #[.int .u8 pr] 5)
  have V2 := V1.add (by simp) (.cells #[.int .u32 d] 23)
  have V3 := V2.add (by simp) (.cells #[.int .u16 t] 24)
  have V4 := V3.add (by simp) (.cells Rule.zero.cs.toArray 26)
  simp only [go_sem, alloc26, World.size_alloc]
  rw [show w.heap.size + 1 + 1 = w.heap.size + 2 from rfl, show w.heap.size + 2 + 1 = w.heap.size + 3 from rfl]
  generalize (((w.alloc (.cells #[.int .u8 pr] 5)).alloc (.cells #[.int .u32 d] 23)).alloc (.cells #[.int .u16 t] 24)).alloc (.cells Rule.zero.cs.toArray 26) = w2 at V4
  refine k32.bind ?_
  rintro ⟨_, w3⟩ ⟨p, q, h1, b3, hp, hq⟩
  simp only at h1 b3 hp hq
  subst h1
  simp only [go_sem]
  refine (k31n hp).bind ?_
  rintro ⟨_, w4⟩ ⟨h1, b4⟩
  simp only at h1 b4
  subst h1
  have X := (V4.later b3).later b4
  have hz4 : w4.heap[w.heap.size + 3]? = some (.cells Rule.zero.cs.toArray 26) := X.at_ 3 _ rfl
  simp only [go_sem, store26 hz4 rfl, Rule.all (CellsAt.of (setRow_heap _ _ _ _ _ _ hz4))]
  exact .ret ⟨rfl, (X.row (j := 3) rfl rfl _).bel⟩

theorem l10 {w : World} {x : Deed} {q : Ask} : Brings (s10 x.v q.v w) (Yes w) := by
  unfold s10
  have D := x.new w
  have hb : Bel w (w.alloc (.cells x.cs.toArray 56)) := (Bel.refl w).alloc _
  rw [x.box]
  simp only [go_sem]
  generalize w.alloc (.cells x.cs.toArray 56) = w0 at D hb
  generalize w.heap.size = pd at D
  have A := q.new w0
  have hb1 : Bel w0 (w0.alloc (.cells q.cs.toArray 37)) := (Bel.refl w0).alloc _
  rw [q.box]
  simp only [go_sem]
  have hb := hb.trans hb1
  have D := D.bel hb1
  clear hb1
  generalize w0.alloc (.cells q.cs.toArray 37) = w1 at A D hb
  generalize w0.heap.size = p at A
  simp only [Ask.b0 A, go_sem]
  refine k18n.bind ?_
  rintro ⟨_, w2⟩ ⟨h1, b2⟩
  simp only at h1 b2
  subst h1
  have B := local_bel w2 (.cells Rule.zero.cs.toArray 26) Rule.zero.cs.toArray
  have X1 := local_at w2 Rule.zero.cs Rule.zero.cs 26
  simp only [alloc26, put26, go_sem]
  have B2 := b2.trans B
  clear B b2
  generalize (w2.alloc (.cells Rule.zero.cs.toArray 26)).setRow w2.heap.size Rule.zero.cs.toArray = w3 at X1 B2
  have A3 := A.bel B2
  simp only [Ask.b1 A3, Ask.b2 A3, Ask.b3 A3, go_sem]
  refine k19n.bind ?_
  rintro ⟨_, w4⟩ ⟨h1, b4⟩
  simp only at h1 b4
  subst h1
  have B := local_bel w4 (.cells Rule.zero.cs.toArray 26) Rule.zero.cs.toArray
  have X2 := local_at w4 Rule.zero.cs Rule.zero.cs 26
  simp only [alloc26, put26, go_sem]
  have B4 := (B2.trans b4).trans B
  have X1 := (X1.bel b4).bel B
  clear B b4
  generalize (w4.alloc (.cells Rule.zero.cs.toArray 26)).setRow w4.heap.size Rule.zero.cs.toArray = w5 at X1 X2 B4
  refine k14.bind ?_
  rintro ⟨_, w6⟩ ⟨h1, b6⟩
  simp only at h1 b6
  subst h1
  have B6 := B4.trans b6
  have D6 := D.bel B6
  simp only [go_sem, Rule.all (Deed.in0 D6)]
  refine k12n.bind ?_
  rintro ⟨_, w7⟩ ⟨h1, b7⟩
  simp only at h1 b7
  subst h1
  simp only [go_sem, beq_self_eq_true, Deed.b2 (D6.bel b7)]
  refine k20n.bind ?_
  rintro _ rfl
  simp only [go_sem, beq_self_eq_true]
  refine k16n.bind ?_
  rintro _ rfl
  have X1 := X1.bel (b6.trans b7)
  have X2 := X2.bel (b6.trans b7)
  simp only [go_sem, Qlen_slice und33, show (((0 : Nat) : Int) == 0) = true from rfl, Rule.all X1, Rule.all X2, build26n, Rule.eql, decide_true, Bool.not_false]
  refine k23n.bind ?_
  rintro _ rfl
  simp only [go_sem, Qb_eqlP (P := Try.prog) (t := 27) (e := 60) (by kernel_rfl), Option.isNone_none]
  exact .ret ⟨rfl, (hb.trans B6).trans b7⟩

theorem law10 {v0 v1 : Value} {n0 n1 : Nat} {w : World} {r0 r1 : Reach} {b0 b1 : Nat} (ho0 : Value.okWide Try.prog w r0 b0 56 v0) (h0 : Okc Try.prog w n0 56 v0.cells.toList) (ho1 : Value.okWide Try.prog w r1 b1 37 v1) (h1 : Okc Try.prog w n1 37 v1.cells.toList) :
    Calls Try.prog 10 #[v0, v1] w fun e w' => e = .returned (.bool true) ∧ Below w.heap.size w w' := by
  obtain ⟨x, rfl, hx⟩ := open56 ho0 h0
  obtain ⟨q, rfl, hq⟩ := open37 ho1 h1
  exact law_of l10 fun _ => c10

end Go.Proofs.Ytiioaklogbjhhaa
