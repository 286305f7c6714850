/- Laws: right, first, hold, nets, plays. -/
import Derived.Test.YtiioaklogbjhhaaRu15
namespace Go.Proofs.Ytiioaklogbjhhaa
open Go Go.Ev Go.RowKit
open Go.Proofs

def Yes (w : World) (r : Value × World) : Prop := r.1 = .bool true ∧ Bel w r.2

/-! ## Which rules are right -/

theorem l3 {w : World} {x : Rule} (hx : x.ok) : Brings (s3 x.v w) (Yes w) := by
  unfold s3
  have A := x.new w
  have hb : Bel w (w.alloc (.cells x.cs.toArray 26)) := (Bel.refl w).alloc _
  rw [x.box]
  simp only [go_sem]
  generalize w.alloc (.cells x.cs.toArray 26) = w1 at A hb
  generalize w.heap.size = q at A
  refine k11.bind ?_
  rintro ⟨_, w2⟩ ⟨a, sa, h1, b2, oa, fa⟩
  simp only at h1 b2 oa
  subst h1
  simp only [Rule.all (A.bel b2), go_sem]
  refine (k12 oa hx).bind ?_
  rintro ⟨_, w3⟩ hd
  obtain ⟨rfl, b3, s3, o3, f3⟩ := did_new b2 hd fa
  simp only [Rule.all (A.bel b3), go_sem]
  refine (k12 o3 hx).bind ?_
  rintro ⟨_, w4⟩ hd
  obtain ⟨rfl, b4, s4, o4, f4⟩ := did_new b3 hd f3
  simp only [Rule.all (A.bel b4), go_sem]
  refine (k13 hx).bind ?_
  rintro ⟨_, w5⟩ ⟨h1, b5⟩
  simp only at h1 b5
  subst h1
  simp only [go_sem]
  have B5 := b4.trans b5
  cases hr : rightM x with
  | false =>
    have a1 : addM [] x = (4, []) := by simp [addM, hr]
    simp only [a1] at o4 ⊢
    simp only [Bool.not_false, go_sem]
    refine k14.bind ?_
    rintro ⟨_, w6⟩ ⟨h1, b6⟩
    simp only at h1 b6
    subst h1
    have B6 := B5.trans b6
    simp only [Rule.all (A.bel B6), go_sem]
    refine (k15 hx).bind ?_
    rintro ⟨_, w7⟩ ⟨h1, b7⟩
    simp only at h1 b7
    subst h1
    simp only [hr, Bool.not_false, beq_self_eq_true, go_sem]
    refine (k16 (o4.bel ((b5.trans b6).trans b7))).bind ?_
    rintro ⟨v, w8⟩ ⟨b8, o8, f8⟩
    simp only at b8 o8
    simp only [(View.of_owns o8 (Rule.lens _)).len und33, List.length_nil, go_sem]
    exact .ret ⟨rfl, ((hb.trans B6).trans b7).trans b8⟩
  | true =>
    have a1 : addM [] x = (0, [x]) := by simp [addM, hr]
    have a2 : addM [x] x = (10, [x]) := by simp [addM, hr]
    simp only [a1, a2] at o4 ⊢
    simp only [Bool.not_true, go_sem]
    have bd : Bel w5 w5.drew := (Bel.refl _).drew
    generalize w5.drew = w5' at bd
    refine k14.bind ?_
    rintro ⟨_, w6⟩ ⟨h1, b6⟩
    simp only at h1 b6
    subst h1
    have B6 := (B5.trans bd).trans b6
    simp only [Rule.all (A.bel B6), go_sem]
    refine (k15 hx).bind ?_
    rintro ⟨_, w7⟩ ⟨h1, b7⟩
    simp only at h1 b7
    subst h1
    simp only [hr, beq_self_eq_true, go_sem]
    have o7 := o4.bel (((b5.trans bd).trans b6).trans b7)
    refine (k16 o7).bind ?_
    rintro ⟨v, w8⟩ ⟨b8, o8, f8⟩
    simp only at b8 o8
    simp only [(View.of_owns o8 (Rule.lens _)).len und33, show (([x] : List Rule).length : Int) = 1 from rfl, beq_self_eq_true, go_sem]
    refine (k16 (o7.bel b8)).bind ?_
    rintro ⟨v', w9⟩ ⟨b9, o9, f9⟩
    simp only at b9 o9
    obtain ⟨y, g, o, hy, _, hix, hc⟩ := getR (View.of_owns o9 (Rule.lens _)) (n := 0) (by omega) (by simp)
    simp at hy
    subst hy
    have A8 := A.bel ((B6.trans b7).trans b8)
    simp only [hix, Rule.all hc, Rule.all A8, Rule.all (A8.bel b9), Rule.eql, decide_true, eq_self, and_self, go_sem]
    exact .ret ⟨rfl, (((hb.trans B6).trans b7).trans b8).trans b9⟩

theorem law3 {v0 : Value} {n0 : Nat} {w : World} {r0 : Reach} {b0 : Nat} (ho0 : Value.okWide Try.prog w r0 b0 26 v0) (h0 : Okc Try.prog w n0 26 v0.cells.toList) :
    Calls Try.prog 3 #[v0] w fun e w' => e = .returned (.bool true) ∧ Below w.heap.size w w' := by
  obtain ⟨x, rfl, hx⟩ := open26 ho0 h0
  exact law_of (l3 hx) fun _ => c3

/-! ## Slices of deeds, asked for -/

theorem deeds {v : Value} {n : Nat} {w : World} {r : Reach} {b : Nat} (ho : Value.okWide Try.prog w r b 35 v) (h : Okc Try.prog w n 35 v.cells.toList) : ∃ ds : List Deed, View Deed.cs 10 w v ds ∧ ∀ x ∈ ds, x.ok :=
  view_okc und35 (by kernel_rfl) (by decide) (cells_slice und35 ho) (fun _ _ h => okc56 h) h

/-! ## Plays -/

theorem l8 {w : World} {s : Value} {ds : List Deed} {q : Ask} (hv : View Deed.cs 10 w s ds) (hok : ∀ x ∈ ds, x.ok) (hq : q.ok) : Brings (s8 s q.v w) (Yes w) := by
  unfold s8
  have A := q.new w
  have hb : Bel w (w.alloc (.cells q.cs.toArray 37)) := (Bel.refl w).alloc _
  rw [q.box]
  simp only [go_sem]
  generalize w.alloc (.cells q.cs.toArray 37) = w1 at A hb
  generalize w.heap.size = p at A
  refine (k17 (hv.bel hb) hok).bind ?_
  rintro ⟨_, w2⟩ ⟨a, sa, b, sb, h1, b2, T, fa, fb⟩
  simp only at h1 b2 T
  subst h1
  simp only [go_sem]
  refine k14.bind ?_
  rintro ⟨_, w3⟩ ⟨h1, b3⟩
  simp only at h1 b3
  subst h1
  simp only [Ask.all (A.bel (b2.trans b3)), go_sem]
  refine (k22 (T.bel b3) hq).bind ?_
  rintro ⟨_, w4⟩ ⟨h1, b4⟩
  simp only at h1 b4
  subst h1
  simp only [go_sem]
  exact .ret ⟨rfl, ((hb.trans b2).trans b3).trans b4⟩

theorem law8 {v0 v1 : Value} {n0 n1 : Nat} {w : World} {r0 r1 : Reach} {b0 b1 : Nat} (ho0 : Value.okWide Try.prog w r0 b0 35 v0) (h0 : Okc Try.prog w n0 35 v0.cells.toList) (ho1 : Value.okWide Try.prog w r1 b1 37 v1) (h1 : Okc Try.prog w n1 37 v1.cells.toList) :
    Calls Try.prog 8 #[v0, v1] w fun e w' => e = .returned (.bool true) ∧ Below w.heap.size w w' := by
  obtain ⟨ds, hv, hok⟩ := deeds ho0 h0
  obtain ⟨q, rfl, hq⟩ := open37 ho1 h1
  exact law_of (l8 hv hok hq) fun _ => c8

/-! ## Two nets -/

def netA : Rule := ⟨1, 0, 167837696, 16, 1, 0, 0, 0⟩
def netB : Rule := ⟨1, 0, 167772160, 8, 2, 0, 0, 0⟩
theorem addA : addM [] netA = (0, [netA]) := by decide +kernel
theorem addB : addM [netA] netB = (0, [netA, netB]) := by decide +kernel
theorem okA : netA.ok := by unfold Rule.ok netA; decide +kernel
theorem okB : netB.ok := by unfold Rule.ok netB; decide +kernel

theorem masq_nets (n : Nat) : masqM n [netA, netB] = if n / 2 ^ 16 = 2561 then (netA, true) else if n / 2 ^ 24 = 10 then (netB, true) else (Rule.zero, false) := by
  have e1 : (netA.kind == 1 && masqP n netA) = decide (n / 2 ^ 16 = 2561) := by
    unfold masqP netA upN
    rw [Bool.eq_iff_iff]
    simp
    omega
  have e2 : (netB.kind == 1 && masqP n netB) = decide (n / 2 ^ 24 = 10) := by
    unfold masqP netB upN
    rw [Bool.eq_iff_iff]
    simp
    omega
  unfold masqM firstM
  rw [List.find?_cons, e1]
  by_cases h1 : n / 2 ^ 16 = 2561
  · simp [h1]
  · rw [List.find?_cons, e2]
    by_cases h2 : n / 2 ^ 24 = 10 <;> simp [h1, h2]

end Go.Proofs.Ytiioaklogbjhhaa
