/- Laws: nets; first; hold. -/
import Derived.Test.YtiioaklogbjhhaaRu16
namespace Go.Proofs.Ytiioaklogbjhhaa
open Go Go.Ev Go.RowKit
open Go.Proofs

/-! ## Two nets -/

theorem yes7 {w : World} {a : Nat} {e f : Int} {m : Rule × Bool} {k : Int} (A : CellsAt m.1.cs w a 0) (h1 : e = 0) (h2 : f = 0) (h3 : m.2 = decide (0 < k)) (h4 : m.1.to_ = k) :
    Brings (s7M1 (.int .i64 e) (.int .i64 f) (.pointer (some ⟨a, 0, none⟩)) (.bool m.2) (.int .u32 k) w) (fun r => r = (.bool true, w)) := by
  subst h1 h2
  unfold s7M1
  simp only [go_sem, beq_self_eq_true, h3, Qb_eqlB (P := Try.prog) (t := 4) (by kernel_rfl), Rule.b4 A, h4]
  exact .ret rfl

theorem l7 {w : World} {n : Nat} (hn : n < 2 ^ 32) : Brings (s7 (.int .u32 n) w) (Yes w) := by
  unfold s7
  refine k11.bind ?_
  rintro ⟨_, w2⟩ ⟨a, sa, h1, b2, oa, fa⟩
  simp only at h1 b2 oa
  subst h1
  simp only [build26, go_sem]
  refine (k12 (x := netA) oa okA).bind ?_
  rintro ⟨_, w3⟩ hd
  rw [addA] at hd
  obtain ⟨rfl, b3, s3, o3, f3⟩ := did_new b2 hd fa
  simp only
  refine (k12 (x := netB) o3 okB).bind ?_
  rintro ⟨_, w4⟩ hd
  rw [addB] at hd
  obtain ⟨rfl, b4, s4, o4, f4⟩ := did_new b3 hd f3
  simp only
  refine (k18 o4 hn).bind ?_
  rintro ⟨_, w5⟩ ⟨h1, b5⟩
  simp only at h1 b5
  subst h1
  have B := local_bel w5 (.cells Rule.zero.cs.toArray 26) (masqM n [netA, netB]).1.cs.toArray
  have A := local_at w5 (masqM n [netA, netB]).1.cs Rule.zero.cs 26
  simp only [alloc26, put26, go_sem]
  have b6 := (b4.trans b5).trans B
  clear B
  generalize (w5.alloc (.cells Rule.zero.cs.toArray 26)).setRow w5.heap.size (masqM n [netA, netB]).1.cs.toArray = w6 at A b6
  rw [Qb_shr (by decide)]
  simp only [go_sem]
  rw [show min (Int.toNat 24) 32 = 24 from rfl, shr_nat]
  have hm := masq_nets n
  have go : ∀ k : Int, (¬ n / 2 ^ 16 = 2561 → (masqM n [netA, netB]).2 = decide (0 < k) ∧ (masqM n [netA, netB]).1.to_ = k) → Brings (s7M0 (.int .u32 n) (.int .i64 0) (.int .i64 0) (.pointer (some ⟨w5.heap.size, 0, none⟩)) (.bool (masqM n [netA, netB]).2) (.int .u32 k) w6) (Yes w) := fun k hk => by
    unfold s7M0
    rw [Qb_shr (by decide)]
    simp only [go_sem]
    rw [show min (Int.toNat 16) 32 = 16 from rfl, shr_nat]
    refine .cond (fun h => ?_) (fun h => ?_)
    · have h : n / 2 ^ 16 = 2561 := by
        have : ((n / 2 ^ 16 : Nat) : Int) = 2561 := by simpa using h
        omega
      rw [if_pos h] at hm
      exact (yes7 A rfl rfl (by rw [hm]; rfl) (by rw [hm]; rfl)).mono fun r h => by subst h; exact ⟨rfl, b6⟩
    · have h : ¬ n / 2 ^ 16 = 2561 := fun e => by rw [e] at h; simp at h
      obtain ⟨h1, h2⟩ := hk h
      exact (yes7 A rfl rfl h1 h2).mono fun r h => by subst h; exact ⟨rfl, b6⟩
  refine .cond (fun h => ?_) (fun h => ?_)
  · have h : n / 2 ^ 24 = 10 := by
      have : ((n / 2 ^ 24 : Nat) : Int) = 10 := by simpa using h
      omega
    exact go 2 fun h1 => by rw [hm, if_neg h1, if_pos h]; exact ⟨rfl, rfl⟩
  · have h : ¬ n / 2 ^ 24 = 10 := fun e => by rw [e] at h; simp at h
    exact go 0 fun h1 => by rw [hm, if_neg h1, if_neg h]; exact ⟨rfl, rfl⟩

theorem law7 {n : Int} {w : World} (h : (Lit.int .u32 n).wf = true) : Calls Try.prog 7 #[.int .u32 n] w fun e w' => e = .returned (.bool true) ∧ Below w.heap.size w w' := by
  obtain ⟨m, rfl, hm⟩ := wf_u rfl h
  exact law_of (l7 hm) fun _ => c7

/-! ## What is told -/

theorem first_yes {p : Rule → Bool} {l : List Rule} (h : (firstM p l).2 = true) : (firstM p l).1 ∈ l ∧ p (firstM p l).1 = true := by
  unfold firstM at h ⊢
  cases e : l.find? p with
  | none => rw [e] at h; cases h
  | some x =>
    simp only
    exact ⟨List.mem_of_find?_eq_some e, List.find?_some e⟩
theorem first_more {p : Rule → Bool} {l m : List Rule} (h : (firstM p l).2 = true) : firstM p (l ++ m) = firstM p l := by
  unfold firstM at h ⊢
  rw [List.find?_append]
  cases e : l.find? p with
  | none => rw [e] at h; cases h
  | some x => rfl
theorem add_more (l : List Rule) (x : Rule) : ∃ m, (addM l x).2 = l ++ m := by
  unfold addM
  split
  · exact ⟨[], by simp⟩
  split
  · exact ⟨[], by simp⟩
  split
  · exact ⟨[], by simp⟩
  · exact ⟨[x], rfl⟩


/-- A rule behind one that holds is never told. -/
theorem l4 {w : World} {s : Value} {ds : List Deed} {q : Ask} {x : Rule} (hv : View Deed.cs 10 w s ds) (hok : ∀ x ∈ ds, x.ok) (hq : q.ok) (hx : x.ok) : Brings (s4 s q.v x.v w) (Yes w) := by
  unfold s4
  obtain ⟨n, hn, hn32⟩ := hq.src
  have A := q.new w
  have hb : Bel w (w.alloc (.cells q.cs.toArray 37)) := (Bel.refl w).alloc _
  rw [q.box]
  simp only [go_sem]
  generalize w.alloc (.cells q.cs.toArray 37) = w0 at A hb
  generalize w.heap.size = p at A
  have X := x.new w0
  have hb1 : Bel w0 (w0.alloc (.cells x.cs.toArray 26)) := (Bel.refl w0).alloc _
  rw [x.box]
  simp only [go_sem]
  have hb := hb.trans hb1
  have A := A.bel hb1
  clear hb1
  generalize w0.alloc (.cells x.cs.toArray 26) = w1 at A X hb
  generalize w0.heap.size = px at X
  refine (k17 (hv.bel hb) hok).bind ?_
  rintro ⟨_, w2⟩ ⟨a, sa, b, sb, h1, b2, T, fa, fb⟩
  simp only at h1 b2 T
  subst h1
  simp only [go_sem]
  generalize deedsM [] (ds.take 60) = l at T
  refine k14.bind ?_
  rintro ⟨_, w3⟩ ⟨h1, b3⟩
  simp only at h1 b3
  subst h1
  have o3 := T.A.bel b3
  have B3 := b2.trans b3
  clear b2 b3
  simp only [Bool.not_true, go_sem, Ask.b0 (A.bel B3), hn]
  refine (k18 o3 hn32).bind ?_
  rintro ⟨_, w4⟩ ⟨e1, b4⟩
  simp only at e1 b4
  subst e1
  have B := local_bel w4 (.cells Rule.zero.cs.toArray 26) (masqM n l).1.cs.toArray
  have X1 := local_at w4 (masqM n l).1.cs Rule.zero.cs 26
  simp only [alloc26, put26, go_sem]
  have B4 := (B3.trans b4).trans B
  have o4 := (o3.bel b4).bel B
  have nf : ¬ Foot a sa w4.heap.size := fun h => by have := o3.lt _ h; have := b4.size; omega
  clear b4 B
  generalize w4.heap.size = q1 at X1 nf B4 o4
  generalize (w4.alloc (.cells Rule.zero.cs.toArray 26)).setRow q1 (masqM n l).1.cs.toArray = w5 at X1 B4 o4
  have A5 := A.bel B4
  simp only [Ask.b1 A5, Ask.b2 A5, Ask.b3 A5, go_sem]
  refine (k19 o4).bind ?_
  rintro ⟨_, w6⟩ ⟨e1, b6⟩
  simp only at e1 b6
  subst e1
  have B := local_bel w6 (.cells Rule.zero.cs.toArray 26) (dnatM q.proto q.dst q.port l).1.cs.toArray
  have X2 := local_at w6 (dnatM q.proto q.dst q.port l).1.cs Rule.zero.cs 26
  simp only [alloc26, put26, go_sem]
  have B6 := (B4.trans b6).trans B
  have o6 := (o4.bel b6).bel B
  have X1 := (X1.bel b6).bel B
  have nf2 : ¬ Foot a sa w6.heap.size := fun h => by have := o4.lt _ h; have := b6.size; omega
  clear b6 B
  generalize w6.heap.size = q2 at X1 X2 nf2 B6 o6
  generalize (w6.alloc (.cells Rule.zero.cs.toArray 26)).setRow q2 (dnatM q.proto q.dst q.port l).1.cs.toArray = w7 at X1 X2 B6 o6
  have A7 := A.bel B6
  simp only [Rule.all (X.bel B6), go_sem]
  refine (k12 o6 hx).bind ?_
  rintro ⟨_, w8⟩ ⟨e1, c8, sl, o8, k8⟩
  simp only at e1 c8 o8
  subst e1
  obtain ⟨m, hm⟩ := add_more l x
  rw [hm] at o8
  have hp : p < w1.heap.size := World.block_lt_of_cell? _ _ (A 0 _ rfl)
  have B8 : Bel w1 w8 := (B6.thenChg c8).bel fun k hk h => by have := fa k h; omega
  have A8 := A.bel B8
  have X1 := X1.chg c8 nf
  have X2 := X2.chg c8 nf2
  clear c8
  simp only [Ask.b0 A8, hn, go_sem]
  refine (k18 o8 hn32).bind ?_
  rintro ⟨_, w9⟩ ⟨e1, b9⟩
  simp only at e1 b9
  subst e1
  have B := local_bel w9 (.cells Rule.zero.cs.toArray 26) (masqM n (l ++ m)).1.cs.toArray
  have X3 := local_at w9 (masqM n (l ++ m)).1.cs Rule.zero.cs 26
  simp only [alloc26, put26, go_sem]
  have B9 := (B8.trans b9).trans B
  have o9 := (o8.bel b9).bel B
  have X1 := (X1.bel b9).bel B
  have X2 := (X2.bel b9).bel B
  clear b9 B
  generalize (w9.alloc (.cells Rule.zero.cs.toArray 26)).setRow w9.heap.size (masqM n (l ++ m)).1.cs.toArray = w10 at X1 X2 X3 B9 o9
  have A9 := A.bel B9
  simp only [Ask.b1 A9, Ask.b2 A9, Ask.b3 A9, go_sem]
  refine (k19 o9).bind ?_
  rintro ⟨_, w11⟩ ⟨e1, b11⟩
  simp only at e1 b11
  subst e1
  have B := local_bel w11 (.cells Rule.zero.cs.toArray 26) (dnatM q.proto q.dst q.port (l ++ m)).1.cs.toArray
  have X4 := local_at w11 (dnatM q.proto q.dst q.port (l ++ m)).1.cs Rule.zero.cs 26
  simp only [alloc26, put26, go_sem]
  have B11 := (B9.trans b11).trans B
  have X1 := (X1.bel b11).bel B
  have X2 := (X2.bel b11).bel B
  have X3 := (X3.bel b11).bel B
  clear b11 B
  generalize (w11.alloc (.cells Rule.zero.cs.toArray 26)).setRow w11.heap.size (dnatM q.proto q.dst q.port (l ++ m)).1.cs.toArray = w12 at X1 X2 X3 X4 B11
  have hB := hb.trans B11
  cases t1 : (masqM n l).2 with
  | false =>
    simp only [Bool.not_false, go_sem]
    cases t2 : (dnatM q.proto q.dst q.port l).2 with
    | false => simp only [Bool.not_false, go_sem]; exact .ret ⟨rfl, hB⟩
    | true =>
      have e2 : dnatM q.proto q.dst q.port (l ++ m) = dnatM q.proto q.dst q.port l := first_more t2
      simp only [e2, t2, Bool.not_true, go_sem, Rule.all X2, Rule.eql] at X4 ⊢
      simp only [Rule.all X4, Rule.eql, decide_true, go_sem]
      exact .ret ⟨rfl, hB⟩
  | true =>
    have e1 : masqM n (l ++ m) = masqM n l := first_more t1
    simp only [e1, t1, Bool.not_true, go_sem] at X3 ⊢
    simp only [Rule.all X1, Rule.all X3, Rule.eql, decide_true, go_sem]
    cases t2 : (dnatM q.proto q.dst q.port l).2 with
    | false => simp only [Bool.not_false, go_sem]; exact .ret ⟨rfl, hB⟩
    | true =>
      have e2 : dnatM q.proto q.dst q.port (l ++ m) = dnatM q.proto q.dst q.port l := first_more t2
      simp only [e2, t2, Bool.not_true, go_sem, Rule.all X2, Rule.eql] at X4 ⊢
      simp only [Rule.all X4, Rule.eql, decide_true, go_sem]
      exact .ret ⟨rfl, hB⟩

theorem law4 {v0 v1 v2 : Value} {n0 n1 n2 : Nat} {w : World} {r0 r1 r2 : Reach} {b0 b1 b2 : Nat} (ho0 : Value.okWide Try.prog w r0 b0 35 v0) (h0 : Okc Try.prog w n0 35 v0.cells.toList) (ho1 : Value.okWide Try.prog w r1 b1 37 v1) (h1 : Okc Try.prog w n1 37 v1.cells.toList) (ho2 : Value.okWide Try.prog w r2 b2 26 v2) (h2 : Okc Try.prog w n2 26 v2.cells.toList) :
    Calls Try.prog 4 #[v0, v1, v2] w fun e w' => e = .returned (.bool true) ∧ Below w.heap.size w w' := by
  obtain ⟨ds, hv, hok⟩ := deeds ho0 h0
  obtain ⟨q, rfl, hq⟩ := open37 ho1 h1
  obtain ⟨x, rfl, hx⟩ := open26 ho2 h2
  exact law_of (l4 hv hok hq hx) fun _ => c4

end Go.Proofs.Ytiioaklogbjhhaa
