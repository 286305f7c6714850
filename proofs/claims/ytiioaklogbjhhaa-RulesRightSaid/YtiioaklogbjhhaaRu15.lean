/- What must be whatever is asked; do both tell the same. -/
import Derived.Test.YtiioaklogbjhhaaRu14
namespace Go.Proofs.Ytiioaklogbjhhaa
open Go Go.Ev
open Go.Proofs

def rule5 : Rule := ⟨1, 0, 167772160, 8, 5, 0, 0, 0⟩
theorem add5 : addM [] rule5 = (0, [rule5]) := by decide +kernel
theorem masq5 : masqM 167838211 [rule5] = (rule5, true) := by decide +kernel
theorem masq0 : masqM 184615427 [rule5] = (Rule.zero, false) := by decide +kernel
theorem ok5 : rule5.ok := by unfold Rule.ok rule5; decide +kernel

/-- New and one added. -/
theorem did_new {w w1 w2 : World} {a : Nat} {sl : Value} {l : List Rule} {n : Int} {v : Value} (b1 : Bel w w1) (h : Did 60 w1 a sl n l (v, w2)) (hf : ∀ k, Foot a sl k → w.heap.size ≤ k) :
    v = .int .i64 n ∧ Bel w w2 ∧ ∃ sl', Obj 60 w2 a sl' l ∧ ∀ k, Foot a sl' k → w.heap.size ≤ k := by
  obtain ⟨e1, c2, sl', o2, k2⟩ := h
  refine ⟨e1, (b1.thenChg c2).bel fun k hk h => by have := hf k h; omega, sl', o2, fun k hk => ?_⟩
  have := b1.size
  rcases Did.foot (tt := 60) (a := a) k2 k hk with h | h
  · exact hf k h
  · omega

theorem Xbox_v {x : Rule} {w : World} : Xbox Try.prog 26 x.v w = some (.pointer (some ⟨w.heap.size, 0, none⟩), w.alloc (.cells x.cs.toArray 26)) := x.box w

theorem k14 {w : World} : Brings (Xcall Try.prog (Value.func (Fn.func 14) #[] #[]) #[] w) (fun r => r.1 = .bool true ∧ Bel w r.2) := by
  refine e14 ?_
  unfold s14
  refine k11.bind ?_
  rintro ⟨_, w1⟩ ⟨a, sa, h1, b1, oa, fa⟩
  simp only at h1 b1 oa
  subst h1
  simp only [build26, go_sem]
  refine (k12 (x := rule5) oa ok5).bind ?_
  rintro ⟨_, w2⟩ hd
  rw [add5] at hd
  obtain ⟨rfl, b2, sl, o2, -⟩ := did_new b1 hd fa
  simp only
  refine (k18 (n := 167838211) o2 (by decide)).bind ?_
  rintro ⟨_, w3⟩ ⟨h1, b3⟩
  rw [masq5] at h1
  simp only at h1 b3
  subst h1
  have B3 := local_bel w3 (.cells Rule.zero.cs.toArray 26) rule5.cs.toArray
  have A3 := local_at w3 rule5.cs Rule.zero.cs 26
  simp only [alloc26, put26, go_sem]
  generalize (w3.alloc (.cells Rule.zero.cs.toArray 26)).setRow w3.heap.size rule5.cs.toArray = w4 at A3 B3
  have b4 := (b2.trans b3).trans B3
  refine (k18 (n := 184615427) (o2.bel (b3.trans B3)) (by decide)).bind ?_
  rintro ⟨_, w5⟩ ⟨h1, b5⟩
  rw [masq0] at h1
  simp only at h1 b5
  subst h1
  have B5 := local_bel w5 (.cells Rule.zero.cs.toArray 26) Rule.zero.cs.toArray
  simp only [alloc26, put26, go_sem, beq_self_eq_true]
  have A5 := A3.bel (b5.trans B5)
  simp only [Rule.b4 A5, go_sem]
  refine .ret ⟨rfl, (b4.trans b5).trans B5⟩

theorem Ask.ok.src {x : Ask} (h : x.ok) : ∃ n : Nat, x.src = n ∧ n < 2 ^ 32 := wf_u rfl h.1

theorem k22 {w : World} {a b : Nat} {sa sb : Value} {l : List Rule} {q : Ask} (h : Two w a sa b sb l) (hq : q.ok) :
    Brings (Xcall Try.prog (Value.func (Fn.func 22) #[] #[]) #[.pointer (some ⟨a, 0, none⟩), .pointer (some ⟨b, 0, none⟩), q.v] w) (fun r => r.1 = .bool true ∧ Bel w r.2) := by
  refine e22 ?_
  unfold s22
  obtain ⟨n, hn, hn32⟩ := hq.src
  have A := q.new w
  have b0 : Bel w (w.alloc (.cells q.cs.toArray 37)) := (Bel.refl w).alloc _
  rw [q.box]
  simp only [go_sem, Ask.b0 A, hn]
  generalize w.alloc (.cells q.cs.toArray 37) = w1 at A b0
  generalize w.heap.size = p at A
  refine (k18 (h.bel b0).A hn32).bind ?_
  rintro ⟨_, w2⟩ ⟨e1, b2⟩
  simp only at e1 b2
  subst e1
  have B := local_bel w2 (.cells Rule.zero.cs.toArray 26) (masqM n l).1.cs.toArray
  have X1 := local_at w2 (masqM n l).1.cs Rule.zero.cs 26
  simp only [alloc26, put26, go_sem]
  have b3 := (b0.trans b2).trans B
  have A3 := A.bel (b2.trans B)
  clear b2 B
  generalize (w2.alloc (.cells Rule.zero.cs.toArray 26)).setRow w2.heap.size (masqM n l).1.cs.toArray = w3 at X1 b3 A3
  simp only [Ask.b0 A3, hn, go_sem]
  refine (k36 (h.bel b3).B hn32).bind ?_
  rintro ⟨_, w4⟩ ⟨e1, b4⟩
  simp only at e1 b4
  subst e1
  have B := local_bel w4 (.cells Rule.zero.cs.toArray 26) (masqM n l).1.cs.toArray
  have X2 := local_at w4 (masqM n l).1.cs Rule.zero.cs 26
  simp only [alloc26, put26, go_sem]
  have b5 := (b3.trans b4).trans B
  have A5 := A3.bel (b4.trans B)
  have X1 := X1.bel (b4.trans B)
  clear b4 B
  generalize (w4.alloc (.cells Rule.zero.cs.toArray 26)).setRow w4.heap.size (masqM n l).1.cs.toArray = w5 at X1 X2 b5 A5
  simp only [Ask.b1 A5, Ask.b2 A5, Ask.b3 A5, go_sem]
  refine (k19 (h.bel b5).A).bind ?_
  rintro ⟨_, w6⟩ ⟨e1, b6⟩
  simp only at e1 b6
  subst e1
  have B := local_bel w6 (.cells Rule.zero.cs.toArray 26) (dnatM q.proto q.dst q.port l).1.cs.toArray
  have X3 := local_at w6 (dnatM q.proto q.dst q.port l).1.cs Rule.zero.cs 26
  simp only [alloc26, put26, go_sem]
  have b7 := (b5.trans b6).trans B
  have A7 := A5.bel (b6.trans B)
  have X1 := X1.bel (b6.trans B)
  have X2 := X2.bel (b6.trans B)
  clear b6 B
  generalize (w6.alloc (.cells Rule.zero.cs.toArray 26)).setRow w6.heap.size (dnatM q.proto q.dst q.port l).1.cs.toArray = w7 at X1 X2 X3 b7 A7
  simp only [Ask.b1 A7, Ask.b2 A7, Ask.b3 A7, go_sem]
  refine (k37 (h.bel b7).B).bind ?_
  rintro ⟨_, w8⟩ ⟨e1, b8⟩
  simp only at e1 b8
  subst e1
  have B := local_bel w8 (.cells Rule.zero.cs.toArray 26) (dnatM q.proto q.dst q.port l).1.cs.toArray
  have X4 := local_at w8 (dnatM q.proto q.dst q.port l).1.cs Rule.zero.cs 26
  simp only [alloc26, put26, go_sem]
  have b9 := (b7.trans b8).trans B
  have X1 := X1.bel (b8.trans B)
  have X2 := X2.bel (b8.trans B)
  have X3 := X3.bel (b8.trans B)
  clear b8 B
  generalize (w8.alloc (.cells Rule.zero.cs.toArray 26)).setRow w8.heap.size (dnatM q.proto q.dst q.port l).1.cs.toArray = w9 at X1 X2 X3 X4 b9
  simp only [Rule.all X1, Rule.all X2, Rule.all X3, Rule.all X4, Rule.eql, decide_true, Qb_eqlB (P := Try.prog) (t := 4) (by kernel_rfl), beq_self_eq_true, go_sem]
  refine (k16 (h.bel b9).A).bind ?_
  rintro ⟨v1, w10⟩ ⟨b10, o10, f10⟩
  simp only at b10 o10 f10 ⊢
  refine (k38 ((h.bel b9).bel b10).B).bind ?_
  rintro ⟨v2, w11⟩ ⟨b11, o11, f11⟩
  simp only at b11 o11 f11 ⊢
  refine (k21 ((View.of_owns o10 (Rule.lens l)).bel b11) (View.of_owns o11 (Rule.lens l))).bind ?_
  rintro ⟨_, w12⟩ ⟨e1, b12⟩
  simp only at e1 b12
  subst e1
  simp only [decide_true, go_sem]
  exact .ret ⟨rfl, ((b9.trans b10).trans b11).trans b12⟩

end Go.Proofs.Ytiioaklogbjhhaa
