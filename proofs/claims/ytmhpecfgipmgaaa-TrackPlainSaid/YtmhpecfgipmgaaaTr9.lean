/- Flags beside the four play no part. -/
import Derived.Test.YtmhpecfgipmgaaaTr8
namespace Go.Proofs.Ytmhpecfgipmgaaa
open Go Go.Ev Go.RowKit
open Go.Proofs

theorem ofInt_byte (x : BitVec 8) : BitVec.ofInt 8 (IntKind.u8.wrap (x.toNat : Int)) = x := by
  have : IntKind.u8.wrap (x.toNat : Int) = (x.toNat : Int) := by
    have := x.isLt
    simp only [IntKind.wrap, IntKind.bits, IntKind.signed]
    simp
    omega
  rw [this]
  apply BitVec.eq_of_toNat_eq
  simp

theorem plain_bits (A B M : BitVec 8) (hM : M &&& 23#8 = M) : ((A &&& 23#8) ||| (B &&& ~~~(23#8))) &&& M = A &&& M := by
  apply BitVec.eq_of_getLsbD_eq
  intro i hi
  have h := congrArg (fun x => x.getLsbD i) hM
  simp only [BitVec.getLsbD_and, BitVec.getLsbD_or, BitVec.getLsbD_not, hi, decide_true, Bool.true_and] at h ⊢
  revert h
  cases A.getLsbD i <;> cases B.getLsbD i <;> cases M.getLsbD i <;> cases (23#8).getLsbD i <;> simp

/-- The flags with others beside the four. -/
def other (a b : Int) : Int := ior .u8 (iand .u8 a 23) (iandNot .u8 b 23)
theorem other_band (a b m : Int) (hm : BitVec.ofInt 8 m &&& 23#8 = BitVec.ofInt 8 m) : band (other a b) m = band a m := by
  unfold band other iand ior iandNot
  simp only [IntKind.bits]
  rw [ofInt_byte, ofInt_byte, ofInt_byte]
  exact congrArg (fun z : BitVec 8 => IntKind.u8.wrap (z.toNat : Int)) (plain_bits (BitVec.ofInt 8 a) (BitVec.ofInt 8 b) (BitVec.ofInt 8 m) hm)
theorem other_has (a b : Int) : has (other a b) 1 = has a 1 ∧ has (other a b) 2 = has a 2 ∧ has (other a b) 4 = has a 4 ∧ has (other a b) 16 = has a 16 ∧ begins (other a b) = begins a := by
  unfold has begins
  rw [other_band _ _ 1 (by decide), other_band _ _ 2 (by decide), other_band _ _ 4 (by decide), other_band _ _ 16 (by decide), other_band _ _ 23 (by decide)]
  exact ⟨rfl, rfl, rfl, rfl, rfl⟩
theorem other_next (s : Int) (b : Bool) (x y : Int) : nextM s b (other x y) = nextM s b x := by
  obtain ⟨h1, h2, h4, h16, hb⟩ := other_has x y
  unfold nextM
  rw [news_B, news_B, h1, h2, h4, h16, hb]

theorem und32 : Try.prog.underlying 32 = some (.array 2 5) := by kernel_rfl
theorem QindexAddr_32 {p : Addr} {n : Int} {w : World} (h0 : 0 ≤ n) (h1 : n < 2) : QindexAddr Try.prog 32 (.pointer (some p)) (.int .i64 n) w = some (.pointer (some (p.add n.toNat))) := by
  obtain ⟨i, hi, hs⟩ := inf5
  unfold QindexAddr qv
  simp only [Instr.indexAt, asIntOf, Instr.sureAddr, Sem.run_bind, Sem.run_pure, Result.andThen_ok, run_underlying und32, run_size hi, hs, if_pos (And.intro h0 (show n < ((2 : Nat) : Int) from h1)), Nat.mul_one]

theorem l8 {s x y : Int} {back : Bool} {w : World} : Brings (s8 (.int .i64 s) (.bool back) (.agg #[.int .u8 x, .int .u8 y]) w) (fun r => r.1 = .bool true ∧ Bel w r.2) := by
  unfold s8
  have hc0 : (w.alloc (.cells #[.int .u8 x, .int .u8 y] 32)).cell? ⟨w.heap.size, 0, none⟩ = some (.int .u8 x) := by simp
  have hc1 : (w.alloc (.cells #[.int .u8 x, .int .u8 y] 32)).cell? ⟨w.heap.size, 1, none⟩ = some (.int .u8 y) := by simp
  have hb : Bel w (w.alloc (.cells #[.int .u8 x, .int .u8 y] 32)) := (Bel.refl w).alloc _
  simp only [go_sem]
  generalize w.alloc (.cells #[.int .u8 x, .int .u8 y] 32) = w1 at hc0 hc1 hb
  have i0 : ∀ w', QindexAddr Try.prog 32 (.pointer (some ⟨w.heap.size, 0, none⟩)) (.int .i64 0) w' = some (.pointer (some ⟨w.heap.size, 0, none⟩)) := fun w' => by
    rw [QindexAddr_32 (by omega) (by omega)]; simp [Addr.add]
  have i1 : ∀ w', QindexAddr Try.prog 32 (.pointer (some ⟨w.heap.size, 0, none⟩)) (.int .i64 1) w' = some (.pointer (some ⟨w.heap.size, 1, none⟩)) := fun w' => by
    rw [QindexAddr_32 (by omega) (by omega)]; simp [Addr.add]
  have d0 : ∀ w', Bel w1 w' → Qload Try.prog 5 (.pointer (some ⟨w.heap.size, 0, none⟩)) w' = some (.int .u8 x) := fun w' hb => Qload_cell one5 (hb.cell_some hc0)
  have d1 : Qload Try.prog 5 (.pointer (some ⟨w.heap.size, 1, none⟩)) w1 = some (.int .u8 y) := Qload_cell one5 hc1
  simp only [i0, i1, d0 w1 (Bel.refl _), d1, go_sem]
  refine k12.bind ?_
  rintro ⟨_, w2⟩ ⟨h, b2⟩
  simp only at h b2
  subst h
  simp only [go_sem]
  refine k12.bind ?_
  rintro ⟨_, w3⟩ ⟨h, b3⟩
  simp only at h b3
  rw [show ior .u8 (iand .u8 x 23) (iandNot .u8 y 23) = other x y from rfl, other_next] at h
  subst h
  simp only [go_sem]
  refine k14.bind ?_
  rintro ⟨_, w4⟩ ⟨h, b4⟩
  simp only at h b4
  subst h
  simp only [go_sem, beq_self_eq_true]
  rw [Qb_eqlB (by kernel_rfl)]
  simp only [go_sem, beq_self_eq_true, i0, d0 _ ((b2.trans b3).trans b4)]
  refine k15.bind ?_
  rintro _ rfl
  simp only
  refine k15.bind ?_
  rintro _ rfl
  simp only
  rw [Qb_eqlB (by kernel_rfl), show ior .u8 (iand .u8 x 23) (iandNot .u8 y 23) = other x y from rfl, (other_has x y).2.2.2.2]
  simp only [go_sem, beq_self_eq_true]
  exact .ret ⟨rfl, hb.trans ((b2.trans b3).trans b4)⟩

theorem law8 {s : Int} {back : Bool} {v : Value} {n : Nat} {w : World} {r : Reach} {b0 : Nat} (_ : (Lit.int .i64 s).wf = true) (ho : Value.okWide Try.prog w r b0 32 v) (h : Okc Try.prog w n 32 v.cells.toList) :
    Calls Try.prog 8 #[.int .i64 s, .bool back, v] w fun e w' => e = .returned (.bool true) ∧ Below w.heap.size w w' := by
  simp only [Value.okWide, und32] at ho
  obtain ⟨cs, rfl, hsz, _⟩ := ho
  rw [show Try.prog.cellsOf 32 = 2 from by kernel_rfl] at hsz
  cases n with
  | zero => exact h.elim
  | succ n =>
    unfold Okc at h
    rw [und32] at h
    obtain ⟨_, h⟩ := h
    have h0 := h 0 (by omega)
    have h1 := h 1 (by omega)
    rw [show Try.prog.cellsOf 5 = 1 from by kernel_rfl] at h0 h1
    obtain ⟨l⟩ := cs
    match l, hsz, h0, h1 with
    | [c0, c1], _, h0, h1 =>
      obtain ⟨x, rfl, _⟩ := okc_int Try.underlying5 h0
      obtain ⟨y, rfl, _⟩ := okc_int Try.underlying5 h1
      exact walk_of l8 fun _ => c8

end Go.Proofs.Ytmhpecfgipmgaaa
