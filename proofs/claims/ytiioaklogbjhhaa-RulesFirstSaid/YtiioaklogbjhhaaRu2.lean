/- The reference's Right. -/
import Derived.Test.YtiioaklogbjhhaaRu1
namespace Go.Proofs.Ytiioaklogbjhhaa
open Go Go.Ev
open Go.Proofs

theorem k15 {x : Rule} {w : World} (hx : x.ok) : Brings (Xcall Try.prog (Value.func (Fn.func 15) #[] #[]) #[x.v] w) (fun r => r.1 = .bool (rightM x) ∧ Bel w r.2) := by
  refine e15 ?_
  unfold s15
  obtain ⟨n, hn, hn32⟩ := hx.net
  have A := x.new w
  have hb : Bel w (w.alloc (.cells x.cs.toArray 26)) := (Bel.refl w).alloc _
  rw [x.box]
  simp only [go_sem]
  generalize w.alloc (.cells x.cs.toArray 26) = w1 at A hb
  generalize w.heap.size = a at A
  simp only [Rule.b0 A, go_sem]
  unfold rightM
  refine .cond (fun h1 => ?_) (fun h1 => ?_)
  · have Ad : CellsAt x.cs w1.drew a 0 := A.bel (Bel.refl _).drew
    have bd : Bel w w1.drew := hb.drew
    generalize w1.drew = w2 at Ad bd
    simp only [h1, if_true]
    simp only [Rule.b3 Ad, go_sem]
    cases c0 : decide (0 ≤ x.bits) with
    | false => simp only [go_sem, Bool.false_and, eq_self, and_self]; exact .ret ⟨rfl, bd⟩
    | true =>
      simp only [go_sem, Rule.b3 Ad]
      cases c1 : decide (x.bits ≤ 32) with
      | false => simp only [go_sem, Bool.false_and, Bool.and_false, eq_self, and_self]; exact .ret ⟨rfl, bd⟩
      | true =>
        have c0 : 0 ≤ x.bits := by simpa using c0
        have c1 : x.bits ≤ 32 := by simpa using c1
        simp only [go_sem, Rule.b2 Ad, Rule.b3 Ad, hn]
        refine (k28 hn32 c0 c1).bind ?_
        rintro _ rfl
        simp only [go_sem, Rule.b2 Ad, hn, Int.toNat_natCast, Bool.true_and]
        have hcomm : ((upN n x.bits : Int) == (n : Int)) = ((n : Int) == (upN n x.bits : Int)) := by rw [Bool.eq_iff_iff, beq_iff_eq, beq_iff_eq]; exact eq_comm
        rw [hcomm]
        cases c2 : ((n : Int) == (upN n x.bits : Int)) with
        | false => simp only [go_sem, Bool.false_and, Rule.b2 Ad, hn, eq_self, and_self]; exact .ret ⟨rfl, bd⟩
        | true =>
          simp only [go_sem, Rule.b4 Ad, Bool.true_and]
          cases c3 : x.to_ != 0 <;> simp only [go_sem, Bool.false_and, Bool.true_and, Rule.b1 Ad, Rule.b2 Ad, hn, eq_self, and_self]
          · exact .ret ⟨rfl, bd⟩
          cases c4 : x.proto == 0 <;> simp only [go_sem, Bool.false_and, Bool.true_and, Rule.b5 Ad, Rule.b2 Ad, hn, eq_self, and_self]
          · exact .ret ⟨rfl, bd⟩
          cases c5 : x.port == 0 <;> simp only [go_sem, Bool.false_and, Bool.true_and, Rule.b6 Ad, Rule.b2 Ad, hn, eq_self, and_self]
          · exact .ret ⟨rfl, bd⟩
          cases c6 : x.host == 0 <;> simp only [go_sem, Bool.false_and, Bool.true_and, Rule.b7 Ad, Rule.b2 Ad, hn, eq_self, and_self]
          · exact .ret ⟨rfl, bd⟩
          · exact .ret ⟨rfl, bd⟩
  · simp only [h1, Bool.false_eq_true, if_false]
    refine .cond (fun h2 => ?_) (fun h2 => ?_)
    · simp only [h2, if_true, Rule.b1 A, go_sem]
      cases c6 : x.proto == 6 <;> simp only [go_sem, Bool.true_or, Bool.false_or, Bool.true_and, Rule.b1 A, Rule.b4 A]
      · cases c17 : x.proto == 17 <;> simp only [go_sem, Bool.false_and, Bool.true_and, Rule.b4 A]
        · exact .ret ⟨rfl, hb⟩
        cases x.to_ != 0 <;> simp only [go_sem, Bool.false_and, Bool.true_and, Rule.b5 A]
        · exact .ret ⟨rfl, hb⟩
        cases x.port != 0 <;> simp only [go_sem, Bool.false_and, Bool.true_and, Rule.b6 A]
        · exact .ret ⟨rfl, hb⟩
        cases x.host != 0 <;> simp only [go_sem, Bool.false_and, Bool.true_and, Rule.b7 A]
        · exact .ret ⟨rfl, hb⟩
        cases x.hostPort != 0 <;> simp only [go_sem, Bool.false_and, Bool.true_and, Rule.b2 A]
        · exact .ret ⟨rfl, hb⟩
        cases x.net == 0 <;> simp only [go_sem, Bool.false_and, Bool.true_and, Rule.b3 A]
        · exact .ret ⟨rfl, hb⟩
        exact .ret ⟨rfl, hb⟩
      · skip
        cases x.to_ != 0 <;> simp only [go_sem, Bool.false_and, Bool.true_and, Rule.b5 A]
        · exact .ret ⟨rfl, hb⟩
        cases x.port != 0 <;> simp only [go_sem, Bool.false_and, Bool.true_and, Rule.b6 A]
        · exact .ret ⟨rfl, hb⟩
        cases x.host != 0 <;> simp only [go_sem, Bool.false_and, Bool.true_and, Rule.b7 A]
        · exact .ret ⟨rfl, hb⟩
        cases x.hostPort != 0 <;> simp only [go_sem, Bool.false_and, Bool.true_and, Rule.b2 A]
        · exact .ret ⟨rfl, hb⟩
        cases x.net == 0 <;> simp only [go_sem, Bool.false_and, Bool.true_and, Rule.b3 A]
        · exact .ret ⟨rfl, hb⟩
        exact .ret ⟨rfl, hb⟩
    · simp only [h2, Bool.false_eq_true, if_false]
      exact .ret ⟨rfl, hb⟩

end Go.Proofs.Ytiioaklogbjhhaa
