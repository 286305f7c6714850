/- What must be; the same; Plays. -/
import Derived.Test.YtfakpdegiobpaaaSe17
import Derived.Test.YtfakpdegiobpaaaFl
namespace Go.Proofs.Ytfakpdegiobpaaa
open Go Go.Ev Go.RowKit
open Go.Proofs

def Yes (w : World) (r : Value × World) : Prop := r.1 = .bool true ∧ Bel w r.2

theorem Both.A {w0 w : World} {a b : Nat} {l : List M} (h : Both w0 w a b l) : ∃ sa Z, St w a sa Z l := by
  obtain ⟨_, _, sa, Z, sb, Y, h3, h4, _⟩ := h
  exact ⟨sa, Z, h3⟩
theorem Both.B {w0 w : World} {a b : Nat} {l : List M} (h : Both w0 w a b l) : ∃ sb Y, Rf w b sb Y l := by
  obtain ⟨_, _, sa, Z, sb, Y, h3, h4, _⟩ := h
  exact ⟨sb, Y, h4⟩
theorem One.st {w0 w : World} {U : Nat → Prop} {a : Nat} {l : List M} (h : One w0 w U a l) : ∃ sa Z, St w a sa Z l := by
  obtain ⟨_, _, _, sa, Z, h3, _⟩ := h
  exact ⟨sa, Z, h3⟩

theorem inf5z : ∃ i, Try.prog.info? 5 = some i ∧ i.size = 1 ∧ i.zero = some By.zero.v ∧ i.bytes = 1 := ⟨(Try.prog.info? 5).get (by kernel_rfl), by kernel_rfl, by kernel_rfl, by kernel_rfl, by kernel_rfl⟩
/-- A slice of zeros. -/
theorem made34 {n : Nat} (hn : n ≤ 1000000) (w : World) : ∃ v w', XmakeSlice Try.prog 34 (.int .i64 (n : Int)) (.int .i64 (n : Int)) w = some (v, w') ∧ OwnB w' v (List.replicate n By.zero) ∧ Bel w w' ∧ ∀ k, v.ownBlock = some k → w.heap.size ≤ k := by
  obtain ⟨i, hi, hs, hz, hb⟩ := inf5z
  obtain ⟨w', e1, e2, e3⟩ := Xmade (w := w) (kl := .i64) (kc := .i64) (f := By.cs) (d := By.zero) By.und34 hi hz hs rfl rfl rfl (n := n) (by rw [hb]; omega) (by unfold maxLen; omega)
  refine ⟨_, w', e1, ?_, e3, fun k hk => ?_⟩
  · unfold OwnB
    rw [List.length_replicate]
    exact e2
  · have hk' : some w.heap.size = some k := hk
    injection hk' with hk'
    omega

def live1 : M := ⟨100, 10, List.replicate 12 By.zero⟩
theorem live_add : addM [] live1 = (0, [live1]) := by kernel_rfl
theorem live_m1 : mapC 100 (cellsOf 0 [live1]) = 100 := by decide +kernel
theorem live_m2 : mapC 105 (cellsOf 0 [live1]) = 100 := by decide +kernel
theorem live_m3 : mapC 110 (cellsOf 0 [live1]) = 112 := by decide +kernel
theorem live_u1 : unmapC 105 (cellsOf 0 [live1]) = 100 := by decide +kernel
theorem live_u2 : unmapC 112 (cellsOf 0 [live1]) = 110 := by decide +kernel

theorem k13 {w : World} : Brings (Xcall Try.prog (Value.func (Fn.func 13) #[] #[]) #[] w) (Yes w) := by
  refine e13 ?_
  unfold s13
  refine (one_new (Bel.refl w) (fun _ => False) fun _ f => f.elim).bind ?_
  rintro ⟨_, w1⟩ ⟨a, h1, b1, o1⟩
  simp only at h1 b1 o1
  subst h1
  obtain ⟨v, w2, e2, t2, b2, _⟩ := made34 (n := 12) (by decide) w1
  rw [show ((12 : Nat) : Int) = 12 from rfl] at e2
  simp only [e2, go_sem]
  refine ((o1.bel b2).add (p := live1) t2.view (by decide) (by decide)).bind ?_
  rintro ⟨_, w3⟩ ⟨e3, _, o3⟩
  simp only at e3 o3
  subst e3
  rw [live_add] at o3
  simp only [live_add, beq_self_eq_true, go_sem]
  obtain ⟨sa, Z, A⟩ := o3.st
  refine (k17 A).bind ?_
  rintro ⟨_, w4⟩ ⟨e4, b4⟩
  simp only at e4 b4
  subst e4
  simp only [live_m1, beq_self_eq_true, go_sem]
  refine (k17 (A.bel b4)).bind ?_
  rintro ⟨_, w5⟩ ⟨e5, b5⟩
  simp only at e5 b5
  subst e5
  simp only [live_m2, beq_self_eq_true, go_sem]
  refine (k17 ((A.bel b4).bel b5)).bind ?_
  rintro ⟨_, w6⟩ ⟨e6, b6⟩
  simp only at e6 b6
  subst e6
  simp only [live_m3, beq_self_eq_true, go_sem]
  refine (k16 (((A.bel b4).bel b5).bel b6)).bind ?_
  rintro ⟨_, w7⟩ ⟨e7, b7⟩
  simp only at e7 b7
  subst e7
  simp only [live_u1, beq_self_eq_true, go_sem]
  refine (k16 ((((A.bel b4).bel b5).bel b6).bel b7)).bind ?_
  rintro ⟨_, w8⟩ ⟨e8, b8⟩
  simp only at e8 b8
  subst e8
  simp only [live_u2, beq_self_eq_true, go_sem]
  exact .ret ⟨rfl, ((((o3.1.trans b4).trans b5).trans b6).trans b7).trans b8⟩

theorem cv34 {w : World} {s : Value} {l : List By} (hv : View By.cs 1 w s l) : Xconv Try.prog 34 9 s w = some (.string (strOfNums (l.map By.b)), w) :=
  Xconv_bytes By.und34 (by kernel_rfl) (by kernel_rfl) (fun _ => rfl) hv

theorem k22 {w w0 : World} {a b : Nat} {l : List M} {x : Part} {n : Int} (h : Both w0 w a b l) :
    Brings (Xcall Try.prog (Value.func (Fn.func 22) #[] #[]) #[.pointer (some ⟨a, 0, none⟩), .pointer (some ⟨b, 0, none⟩), x.v, .int .u32 n] w) (Yes w) := by
  refine e22 ?_
  unfold s22
  have A := x.new w
  have hb : Bel w (w.alloc (.cells x.cs.toArray 41)) := (Bel.refl w).alloc _
  rw [x.box]
  simp only [go_sem]
  generalize w.alloc (.cells x.cs.toArray 41) = w1 at A hb
  generalize w.heap.size = p at A
  have hf := h.2.1
  obtain ⟨sa, Z, S⟩ := h.A
  obtain ⟨sb, Y, R⟩ := h.B
  simp only [Part.b0 A, Part.b1 A, go_sem]
  refine (k23 (S.bel hb) hf).bind ?_
  rintro ⟨_, w2⟩ ⟨b2, v, e2, o2, _⟩
  simp only at e2 b2 o2
  subst e2
  have A2 := A.bel b2
  simp only [Part.b0 A2, Part.b1 A2, go_sem]
  refine (k33 ((R.bel hb).bel b2) hf).bind ?_
  rintro ⟨_, w3⟩ ⟨b3, v', e3, o3, _⟩
  simp only at e3 b3 o3
  subst e3
  simp only [go_sem, cv34 (o2.view.bel b3), cv34 o3.view, beq_self_eq_true]
  rw [Qb_eqlB (by kernel_rfl)]
  simp only [go_sem, beq_self_eq_true]
  have B3 := (hb.trans b2).trans b3
  refine (k17 (S.bel B3)).bind ?_
  rintro ⟨_, w4⟩ ⟨e4, b4⟩
  simp only at e4 b4
  subst e4
  simp only [go_sem]
  refine (k34 (R.bel (B3.trans b4))).bind ?_
  rintro ⟨_, w5⟩ ⟨e5, b5⟩
  simp only at e5 b5
  subst e5
  simp only [go_sem, beq_self_eq_true]
  have B5 := (B3.trans b4).trans b5
  refine (k16 (S.bel B5)).bind ?_
  rintro ⟨_, w6⟩ ⟨e6, b6⟩
  simp only at e6 b6
  subst e6
  simp only [go_sem]
  refine (k35 (R.bel (B5.trans b6))).bind ?_
  rintro ⟨_, w7⟩ ⟨e7, b7⟩
  simp only at e7 b7
  subst e7
  simp only [go_sem, beq_self_eq_true]
  have B7 := (B5.trans b6).trans b7
  refine (k21 (S.bel B7)).bind ?_
  rintro _ rfl
  simp only [go_sem]
  refine (k36 (R.bel B7)).bind ?_
  rintro _ rfl
  simp only [go_sem, beq_self_eq_true]
  exact .ret ⟨rfl, B7⟩

/-! ## Plays -/

theorem l7 {w : World} {s : Value} {Y : List (Part × List By)} {x : Part} {n : Int} (hv : Parts w s Y) : Brings (s7 s x.v (.int .u32 n) w) (Yes w) := by
  unfold s7
  have A := x.new w
  have hb : Bel w (w.alloc (.cells x.cs.toArray 41)) := (Bel.refl w).alloc _
  rw [x.box]
  simp only [go_sem]
  generalize w.alloc (.cells x.cs.toArray 41) = w1 at A hb
  generalize w.heap.size = p at A
  refine (k12 (hv.bel hb)).bind ?_
  rintro ⟨_, w2⟩ ⟨a, b, h1, T⟩
  simp only at h1 T
  subst h1
  simp only [go_sem]
  refine k13.bind ?_
  rintro ⟨_, w3⟩ ⟨h1, b3⟩
  simp only at h1 b3
  subst h1
  have T3 := T.bel b3
  simp only [Part.all (A.bel T3.1), go_sem]
  refine (k22 T3).bind ?_
  rintro ⟨_, w4⟩ ⟨h1, b4⟩
  simp only at h1 b4
  subst h1
  simp only [go_sem]
  exact .ret ⟨rfl, (hb.trans T3.1).trans b4⟩

theorem law7 {v0 v1 : Value} {n0 n1 : Nat} {m : Int} {w : World} {r0 r1 : Reach} {b0 b1 : Nat} (ho0 : Value.okWide Try.prog w r0 b0 22 v0) (h0 : Okc Try.prog w n0 22 v0.cells.toList) (ho1 : Value.okWide Try.prog w r1 b1 41 v1) (h1 : Okc Try.prog w n1 41 v1.cells.toList) (_ : (Lit.int .u32 m).wf = true) :
    Calls Try.prog 7 #[v0, v1, .int .u32 m] w fun e w' => e = .returned (.bool true) ∧ Below w.heap.size w w' := by
  obtain ⟨Y, hv⟩ := parts_of ho0 h0
  obtain ⟨x, rfl, _⟩ := part_of ho1 h1
  exact law_of (l7 hv) fun _ => c7

end Go.Proofs.Ytfakpdegiobpaaa
