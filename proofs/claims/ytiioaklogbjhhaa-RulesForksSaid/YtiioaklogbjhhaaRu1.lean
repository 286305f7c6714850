/- Which rules are right: mask, upper, and both Rights. -/
import Derived.Test.YtiioaklogbjhhaaFe
import Derived.Test.YtiioaklogbjhhaaRu0
namespace Go.Proofs.Ytiioaklogbjhhaa
open Go Go.Ev
open Go.Proofs

/-- The upper bits of a number of 32. -/
def upN (n : Nat) (b : Int) : Nat := n - n % 2 ^ (32 - b).toNat
def maskN (b : Int) : Nat := 2 ^ 32 - 2 ^ (32 - b).toNat

theorem k27 {b : Int} {w : World} (h0 : 0 ≤ b) (h1 : b ≤ 32) : Brings (Xcall Try.prog (Value.func (Fn.func 27) #[] #[]) #[.int .i64 b] w) (fun r => r = (.int .u32 (maskN b), w)) := by
  refine e27 ?_
  unfold s27
  simp only [go_sem]
  rw [wrap_i64 (by omega) (by omega), Qb_shl (by omega)]
  simp only [go_sem]
  refine .ret ?_
  have hs : (32 - b).toNat ≤ 32 := by omega
  have : IntKind.u32.wrap (4294967295 * 2 ^ (min (32 - b).toNat 32)) = (maskN b : Int) := by
    unfold maskN
    have hm : min (32 - b).toNat 32 = (32 - b).toNat := Nat.min_eq_left hs
    rw [hm]
    generalize (32 - b).toNat = s at hs
    have : ∀ s : Fin 33, IntKind.u32.wrap (4294967295 * 2 ^ s.val) = ((2 ^ 32 - 2 ^ s.val : Nat) : Int) := by decide +kernel
    exact this ⟨s, by omega⟩
  rw [this]

theorem k28 {n : Nat} {b : Int} {w : World} (hn : n < 2 ^ 32) (h0 : 0 ≤ b) (h1 : b ≤ 32) : Brings (Xcall Try.prog (Value.func (Fn.func 28) #[] #[]) #[.int .u32 n, .int .i64 b] w) (fun r => r = (.int .u32 (upN n b), w)) := by
  refine e28 ?_
  unfold s28
  refine Brings.loop (fun m xs w' => ∃ i : Nat, xs = [.int .u32 ((n - n % 2 ^ i : Nat) : Int), .int .i64 b, .int .i64 i] ∧ (i : Int) ≤ 32 - b ∧ m = (32 - b).toNat - i ∧ w' = w) ?_ ((32 - b).toNat) _ _ ⟨0, by simp [Nat.mod_one], by omega, by omega, rfl⟩
  rintro m xs w' ⟨i, rfl, hi, hm, rfl⟩
  simp only [s28B0, go_sem]
  rw [wrap_i64 (by omega) (by omega)]
  refine .cond (fun hlt => ?_) (fun hlt => ?_)
  · have hlt : (i : Int) < 32 - b := by simpa using hlt
    rw [Qb_shl (by omega)]
    simp only [go_sem]
    refine .ret (.inl ⟨rfl, (32 - b).toNat - (i + 1), by omega, i + 1, ?_, by omega, rfl, rfl⟩)
    have hi32 : i < 32 := by omega
    have e1 : IntKind.u32.wrap (1 * 2 ^ (min (i : Int).toNat 32)) = ((2 ^ i : Nat) : Int) := by
      have : ∀ s : Fin 32, IntKind.u32.wrap (1 * 2 ^ (min ((s.val : Nat) : Int).toNat 32)) = ((2 ^ s.val : Nat) : Int) := by decide +kernel
      exact this ⟨i, hi32⟩
    rw [e1, iandNot_u rfl (Nat.lt_of_le_of_lt (Nat.sub_le _ _) hn) (Nat.pow_lt_pow_right (by omega) hi32)]
    rw [show (2 ^ IntKind.u32.bits - 1 - 2 ^ i) = 2 ^ 32 - 1 - 2 ^ i from rfl, strike_bit hn hi32, wrap_i64 (by omega) (by omega)]
    rfl
  · have hlt : ¬ (i : Int) < 32 - b := by simpa using hlt
    have : i = (32 - b).toNat := by omega
    subst this
    exact .ret (.inr ⟨by simp, .ret rfl⟩)

def rightM (x : Rule) : Bool :=
  if x.kind == 1 then decide (0 ≤ x.bits) && decide (x.bits ≤ 32) && x.net == (upN x.net.toNat x.bits : Int) && x.to_ != 0 && x.proto == 0 && x.port == 0 && x.host == 0 && x.hostPort == 0
  else if x.kind == 2 then (x.proto == 6 || x.proto == 17) && x.to_ != 0 && x.port != 0 && x.host != 0 && x.hostPort != 0 && x.net == 0 && x.bits == 0
  else false

theorem build26 (n b t : Int) (w : World) : Qbuild Try.prog 26 #[(0, .int .i64 1), (2, .int .u32 n), (3, .int .i64 b), (4, .int .u32 t)] w = some (⟨1, 0, n, b, t, 0, 0, 0⟩ : Rule).v := by kernel_rfl

theorem net_zero {n : Nat} {b : Int} (hn : n < 2 ^ 32) (h0 : 0 ≤ b) (h1 : b ≤ 32) : (iandNot .u32 (n : Int) (maskN b : Int) == 0) = ((n : Int) == (upN n b : Int)) := by
  unfold maskN upN
  have hs : (32 - b).toNat ≤ 32 := by omega
  generalize (32 - b).toNat = s at hs
  have hp : 2 ^ s ≤ 2 ^ 32 := Nat.pow_le_pow_right (by omega) hs
  have hpos : 0 < 2 ^ s := Nat.pow_pos (by omega)
  rw [iandNot_u rfl hn (show 2 ^ 32 - 2 ^ s < 2 ^ IntKind.u32.bits from by show _ < 2 ^ 32; omega)]
  rw [show 2 ^ IntKind.u32.bits - 1 - (2 ^ 32 - 2 ^ s) = 2 ^ s - 1 from by show 2 ^ 32 - 1 - _ = _; omega, Nat.and_two_pow_sub_one_eq_mod]
  have hle : n % 2 ^ s ≤ n := Nat.mod_le _ _
  rw [Bool.eq_iff_iff, beq_iff_eq, beq_iff_eq]
  omega

/-- Rules of right sizes. -/
theorem Rule.ok.net {x : Rule} (h : x.ok) : ∃ n : Nat, x.net = n ∧ n < 2 ^ 32 := wf_u rfl h.2.2.1

theorem k13 {x : Rule} {w : World} (hx : x.ok) : Brings (Xcall Try.prog (Value.func (Fn.func 13) #[] #[]) #[x.v] w) (fun r => r.1 = .bool (rightM x) ∧ Bel w r.2) := by
  refine e13 ?_
  unfold s13
  obtain ⟨n, hn, hn32⟩ := hx.net
  have A := x.new w
  have hb : Bel w (w.alloc (.cells x.cs.toArray 26)) := (Bel.refl w).alloc _
  rw [x.box]
  simp only [go_sem]
  generalize w.alloc (.cells x.cs.toArray 26) = w1 at A hb
  generalize w.heap.size = a at A
  simp only [Rule.b0 A, go_sem]
  unfold rightM
  refine .cond (fun h1 => ?_) (fun h1 => ?_)
  · have Ad : CellsAt x.cs w1.drew a 0 := A.bel (Bel.refl _).drew
    have bd : Bel w w1.drew := hb.drew
    generalize w1.drew = w2 at Ad bd
    simp only [h1, if_true]
    simp only [Rule.b3 Ad, Rule.b2 Ad, go_sem]
    cases c0 : decide (0 ≤ x.bits) with
    | false => simp only [go_sem, Bool.false_and, eq_self, and_self]; exact .ret ⟨rfl, bd⟩
    | true =>
      simp only [go_sem, Rule.b3 Ad]
      cases c1 : decide (x.bits ≤ 32) with
      | false => simp only [go_sem, Bool.false_and, Bool.and_false, eq_self, and_self]; exact .ret ⟨rfl, bd⟩
      | true =>
        have c0 : 0 ≤ x.bits := by simpa using c0
        have c1 : x.bits ≤ 32 := by simpa using c1
        simp only [go_sem, Rule.b2 Ad, Rule.b3 Ad]
        refine (k27 c0 c1).bind ?_
        rintro _ rfl
        simp only [go_sem, hn, net_zero hn32 c0 c1, Int.toNat_natCast, Bool.true_and]
        cases c2 : ((n : Int) == (upN n x.bits : Int)) with
        | false => simp only [go_sem, Bool.false_and, Rule.b2 Ad, hn, eq_self, and_self]; exact .ret ⟨rfl, bd⟩
        | true =>
          simp only [go_sem, Rule.b4 Ad, Bool.true_and]
          cases c3 : x.to_ != 0 with
          | false => simp only [go_sem, Bool.false_and, Rule.b2 Ad, hn, eq_self, and_self]; exact .ret ⟨rfl, bd⟩
          | true =>
            simp only [go_sem, Rule.all Ad, Rule.b2 Ad, Rule.b3 Ad, Rule.b4 Ad, build26, Rule.eql, Bool.true_and, hn, eq_self, and_self]
            refine .ret ⟨?_, bd⟩
            have e1 : x.kind = 1 := by simpa using h1
            obtain ⟨k, p, n', b, t, po, h, hp⟩ := x
            simp only at e1 hn
            subst e1 hn
            simp only [Rule.mk.injEq]
            congr 1
            rw [Bool.eq_iff_iff]
            simp [and_assoc]
  · simp only [h1, Bool.false_eq_true, if_false]
    refine .cond (fun h2 => ?_) (fun h2 => ?_)
    · simp only [h2, if_true, Rule.b1 A, go_sem]
      cases c6 : x.proto == 6 <;> simp only [go_sem, Bool.true_or, Bool.false_or, Bool.true_and, Rule.b1 A, Rule.b4 A]
      · cases c17 : x.proto == 17 <;> simp only [go_sem, Bool.false_and, Bool.true_and, Rule.b4 A]
        · exact .ret ⟨rfl, hb⟩
        cases x.to_ != 0 <;> simp only [go_sem, Bool.false_and, Bool.true_and, Rule.b5 A]
        · exact .ret ⟨rfl, hb⟩
        cases x.port != 0 <;> simp only [go_sem, Bool.false_and, Bool.true_and, Rule.b6 A]
        · exact .ret ⟨rfl, hb⟩
        cases x.host != 0 <;> simp only [go_sem, Bool.false_and, Bool.true_and, Rule.b7 A]
        · exact .ret ⟨rfl, hb⟩
        cases x.hostPort != 0 <;> simp only [go_sem, Bool.false_and, Bool.true_and, Rule.b2 A]
        · exact .ret ⟨rfl, hb⟩
        cases x.net == 0 <;> simp only [go_sem, Bool.false_and, Bool.true_and, Rule.b3 A]
        · exact .ret ⟨rfl, hb⟩
        exact .ret ⟨rfl, hb⟩
      · skip
        cases x.to_ != 0 <;> simp only [go_sem, Bool.false_and, Bool.true_and, Rule.b5 A]
        · exact .ret ⟨rfl, hb⟩
        cases x.port != 0 <;> simp only [go_sem, Bool.false_and, Bool.true_and, Rule.b6 A]
        · exact .ret ⟨rfl, hb⟩
        cases x.host != 0 <;> simp only [go_sem, Bool.false_and, Bool.true_and, Rule.b7 A]
        · exact .ret ⟨rfl, hb⟩
        cases x.hostPort != 0 <;> simp only [go_sem, Bool.false_and, Bool.true_and, Rule.b2 A]
        · exact .ret ⟨rfl, hb⟩
        cases x.net == 0 <;> simp only [go_sem, Bool.false_and, Bool.true_and, Rule.b3 A]
        · exact .ret ⟨rfl, hb⟩
        exact .ret ⟨rfl, hb⟩
    · simp only [h2, Bool.false_eq_true, if_false]
      exact .ret ⟨rfl, hb⟩

end Go.Proofs.Ytiioaklogbjhhaa
