/- Law: what is told holds. -/
import Derived.Test.YtiioaklogbjhhaaRu17
namespace Go.Proofs.Ytiioaklogbjhhaa
open Go Go.Ev Go.RowKit
open Go.Proofs

theorem masq_hold {n : Nat} {l : List Rule} (hr : ∀ x ∈ l, rightM x = true) (h : (masqM n l).2 = true) :
    (masqM n l).1.kind = 1 ∧ 0 ≤ (masqM n l).1.bits ∧ (masqM n l).1.bits ≤ 32 ∧ (masqM n l).1.net = (upN n (masqM n l).1.bits : Int) := by
  obtain ⟨hm, hp⟩ := first_yes h
  change (masqM n l).1 ∈ l at hm
  change ((masqM n l).1.kind == 1 && masqP n (masqM n l).1) = true at hp
  simp only [Bool.and_eq_true, beq_iff_eq, masqP] at hp
  obtain ⟨b0, b1⟩ := right_bits (hr _ hm) hp.1
  exact ⟨hp.1, b0, b1, hp.2.symm⟩
theorem dnat_hold {p d t : Int} {l : List Rule} (h : (dnatM p d t l).2 = true) :
    (dnatM p d t l).1.kind = 2 ∧ (dnatM p d t l).1.proto = p ∧ (dnatM p d t l).1.to_ = d ∧ (dnatM p d t l).1.port = t := by
  obtain ⟨hm, hp⟩ := first_yes h
  change ((dnatM p d t l).1.kind == 2 && dnatP p d t (dnatM p d t l).1) = true at hp
  simp only [Bool.and_eq_true, beq_iff_eq, dnatP] at hp
  exact ⟨hp.1, hp.2.1.1, hp.2.1.2, hp.2.2⟩

theorem shr_up (n : Nat) (s : Nat) : (n - n % 2 ^ s) / 2 ^ s = n / 2 ^ s := by
  rw [show n - n % 2 ^ s = 2 ^ s * (n / 2 ^ s) by have := Nat.div_add_mod n (2 ^ s); omega]
  exact Nat.mul_div_cancel_left _ (Nat.pow_pos (by decide))

theorem conv23 {n : Nat} (hn : n < 2 ^ 32) : Qconv Try.prog 23 45 (.int .u32 n) = some (.int .u64 n) := by
  rw [Qconv_int (k := .u64) (by kernel_rfl), wrap_u rfl (show n < 2 ^ IntKind.u64.bits from Nat.lt_of_lt_of_le hn (by decide))]

theorem l5 {w : World} {s : Value} {ds : List Deed} {q : Ask} (hv : View Deed.cs 10 w s ds) (hok : ∀ x ∈ ds, x.ok) (hq : q.ok) : Brings (s5 s q.v w) (Yes w) := by
  unfold s5
  obtain ⟨n, hn, hn32⟩ := hq.src
  have A := q.new w
  have hb : Bel w (w.alloc (.cells q.cs.toArray 37)) := (Bel.refl w).alloc _
  rw [q.box]
  simp only [go_sem]
  generalize w.alloc (.cells q.cs.toArray 37) = w1 at A hb
  generalize w.heap.size = p at A
  refine (k17 (hv.bel hb) hok).bind ?_
  rintro ⟨_, w2⟩ ⟨a, sa, b, sb, h1, b2, T, fa, fb⟩
  simp only at h1 b2 T
  subst h1
  simp only [go_sem]
  generalize deedsM [] (ds.take 60) = l at T
  refine k14.bind ?_
  rintro ⟨_, w3⟩ ⟨h1, b3⟩
  simp only at h1 b3
  subst h1
  have o3 := T.A.bel b3
  have B3 := b2.trans b3
  clear b2 b3 T
  simp only [Bool.not_true, go_sem, Ask.b0 (A.bel B3), hn]
  refine (k18 o3 hn32).bind ?_
  rintro ⟨_, w4⟩ ⟨e1, b4⟩
  simp only at e1 b4
  subst e1
  have B := local_bel w4 (.cells Rule.zero.cs.toArray 26) (masqM n l).1.cs.toArray
  have X1 := local_at w4 (masqM n l).1.cs Rule.zero.cs 26
  simp only [alloc26, put26, go_sem]
  have B4 := (B3.trans b4).trans B
  have o4 := (o3.bel b4).bel B
  clear b4 B
  generalize (w4.alloc (.cells Rule.zero.cs.toArray 26)).setRow w4.heap.size (masqM n l).1.cs.toArray = w5 at X1 B4 o4
  generalize w4.heap.size = q1 at X1
  have A5 := A.bel B4
  simp only [Ask.b1 A5, Ask.b2 A5, Ask.b3 A5, go_sem]
  refine (k19 o4).bind ?_
  rintro ⟨_, w6⟩ ⟨e1, b6⟩
  simp only at e1 b6
  subst e1
  have B := local_bel w6 (.cells Rule.zero.cs.toArray 26) (dnatM q.proto q.dst q.port l).1.cs.toArray
  have X2 := local_at w6 (dnatM q.proto q.dst q.port l).1.cs Rule.zero.cs 26
  simp only [alloc26, put26, go_sem]
  have B6 := (B4.trans b6).trans B
  have X1 := (X1.bel b6).bel B
  clear b6 B
  generalize (w6.alloc (.cells Rule.zero.cs.toArray 26)).setRow w6.heap.size (dnatM q.proto q.dst q.port l).1.cs.toArray = w7 at X1 X2 B6
  generalize w6.heap.size = q2 at X2
  have A7 := (A.bel B6).bel (Bel.refl w7).drew
  have X1 := X1.bel (Bel.refl w7).drew
  have X2 := X2.bel (Bel.refl w7).drew
  have hB := (hb.trans B6).drew
  generalize w7.drew = w8 at A7 X1 X2 hB
  have km := masq_hold (n := n) o3.right
  have kd := dnat_hold (p := q.proto) (d := q.dst) (t := q.port) (l := l)
  generalize masqM n l = mt at X1 km
  generalize dnatM q.proto q.dst q.port l = dt at X2 kd
  obtain ⟨m, t⟩ := mt
  obtain ⟨y, d⟩ := dt
  simp only at X1 X2 km kd ⊢
  cases t with
  | false =>
    simp only [go_sem]
    cases d with
    | false =>
      simp only [Bool.not_false, go_sem]
      exact .ret ⟨rfl, hB⟩
    | true =>
      obtain ⟨d1, d2, d3, d4⟩ := kd rfl
      simp only [Bool.not_true, go_sem, Rule.b0 X2, d1, beq_self_eq_true, Rule.b1 X2, d2, Ask.b1 A7, Rule.b4 X2, d3, Ask.b2 A7, Rule.b5 X2, d4, Ask.b3 A7]
      exact .ret ⟨rfl, hB⟩
  | true =>
    obtain ⟨m1, m2, m3, m4⟩ := km rfl
    have e1 : decide (m.bits < 0) = false := by rw [decide_eq_false_iff_not]; omega
    have e2 : decide (32 < m.bits) = false := by rw [decide_eq_false_iff_not]; omega
    have e3 : IntKind.i64.wrap (32 - m.bits) = 32 - m.bits := wrap_i64 (by omega) (by omega)
    have hup : upN n m.bits < 2 ^ 32 := Nat.lt_of_le_of_lt (Nat.sub_le _ _) hn32
    simp only [go_sem, Rule.b0 X1, m1, bne_self_eq_false, Rule.b3 X1, e1, e2, Ask.b0 A7, hn, conv23 hn32, e3, Rule.b2 X1, m4, conv23 hup, Qb_shr (show 0 ≤ 32 - m.bits by omega)]
    have e4 : ((n : Int).fdiv (2 ^ (min (32 - m.bits).toNat 64)) != (upN n m.bits : Int).fdiv (2 ^ (min (32 - m.bits).toNat 64))) = false := by
      rw [show min (32 - m.bits).toNat 64 = (32 - m.bits).toNat by omega, shr_nat, shr_nat]
      unfold upN
      rw [shr_up]
      simp
    simp only [e4, go_sem]
    cases d with
    | false =>
      simp only [Bool.not_false, go_sem]
      exact .ret ⟨rfl, hB⟩
    | true =>
      obtain ⟨d1, d2, d3, d4⟩ := kd rfl
      simp only [Bool.not_true, go_sem, Rule.b0 X2, d1, beq_self_eq_true, Rule.b1 X2, d2, Ask.b1 A7, Rule.b4 X2, d3, Ask.b2 A7, Rule.b5 X2, d4, Ask.b3 A7]
      exact .ret ⟨rfl, hB⟩

theorem law5 {v0 v1 : Value} {n0 n1 : Nat} {w : World} {r0 r1 : Reach} {b0 b1 : Nat} (ho0 : Value.okWide Try.prog w r0 b0 35 v0) (h0 : Okc Try.prog w n0 35 v0.cells.toList) (ho1 : Value.okWide Try.prog w r1 b1 37 v1) (h1 : Okc Try.prog w n1 37 v1.cells.toList) :
    Calls Try.prog 5 #[v0, v1] w fun e w' => e = .returned (.bool true) ∧ Below w.heap.size w w' := by
  obtain ⟨ds, hv, hok⟩ := deeds ho0 h0
  obtain ⟨q, rfl, hq⟩ := open37 ho1 h1
  exact law_of (l5 hv hok hq) fun _ => c5

end Go.Proofs.Ytiioaklogbjhhaa
