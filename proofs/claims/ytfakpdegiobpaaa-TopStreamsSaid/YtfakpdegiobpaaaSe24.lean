/- Forks. -/
import Derived.Test.YtfakpdegiobpaaaSe23
namespace Go.Proofs.Ytfakpdegiobpaaa
open Go Go.Ev Go.RowKit
open Go.Proofs

theorem build41n (w : World) : Qbuild Try.prog 41 #[] w = some Part.zero.v := by kernel_rfl
theorem int1 (m : Int) : (Value.int .u8 m).oneCell' = true := rfl

/-- Both, with their places. -/
structure Two (w0 w : World) (a b : Nat) (l : List M) (sa : Value) (Z : List (Pt × List By)) (sb : Value) (X : List (RPt × List By)) : Prop where
  bel : Bel w0 w
  fine : Fine l
  A : St w a sa Z l
  B : Rf w b sb X l
  dis : Apart (Foot a sa) (Reads Pt.text Z) (Foot b sb) (Reads RPt.text X)
  fA : ∀ k, Foot a sa k → w0.heap.size ≤ k
  fB : ∀ k, Foot b sb k → w0.heap.size ≤ k
theorem Both.two {w0 w : World} {a b : Nat} {l : List M} (h : Both w0 w a b l) : ∃ sa Z sb X, Two w0 w a b l sa Z sb X := by
  obtain ⟨h1, h2, sa, Z, sb, X, h3, h4, h5, h6, h7⟩ := h
  exact ⟨sa, Z, sb, X, h1, h2, h3, h4, h5, h6, h7⟩
theorem Two.both {w0 w : World} {a b : Nat} {l : List M} {sa : Value} {Z : List (Pt × List By)} {sb : Value} {X : List (RPt × List By)} (h : Two w0 w a b l sa Z sb X) : Both w0 w a b l :=
  ⟨h.bel, h.fine, sa, Z, sb, X, h.A, h.B, h.dis, h.fA, h.fB⟩
/-- All that both reach to. -/
def AllOf (a b : Nat) (sa : Value) (Z : List (Pt × List By)) (sb : Value) (X : List (RPt × List By)) (k : Nat) : Prop :=
  (Foot a sa k ∨ Reads Pt.text Z k) ∨ (Foot b sb k ∨ Reads RPt.text X k)
section two
variable {w0 w w' : World} {a b : Nat} {l : List M} {sa : Value} {Z : List (Pt × List By)} {sb : Value} {X : List (RPt × List By)}
theorem Two.lt (h : Two w0 w a b l sa Z sb X) : ∀ k, AllOf a b sa Z sb X k → k < w.heap.size := by
  rintro k ((hk | ⟨z, hz, hk⟩) | (hk | ⟨z, hz, hk⟩))
  · exact h.A.lt k hk
  · exact (h.A.texts z hz).1.lt hk
  · exact h.B.lt k hk
  · exact (h.B.texts z hz).1.lt hk
theorem Two.keep {S : Nat → Prop} (h : Two w0 w a b l sa Z sb X) (hc : Chg S w w') (h0 : ∀ k, S k → w0.heap.size ≤ k) (hs : ∀ k, AllOf a b sa Z sb X k → ¬ S k) : Two w0 w' a b l sa Z sb X :=
  ⟨(h.bel.thenChg hc).bel fun k hk hS => by have := h0 k hS; omega, h.fine, h.A.keep hc (fun k hk => hs k (.inl (.inl hk))) fun k hk => hs k (.inl (.inr hk)), h.B.keep hc (fun k hk => hs k (.inr (.inl hk))) fun k hk => hs k (.inr (.inr hk)), h.dis, h.fA, h.fB⟩
theorem Two.later (h : Two w0 w a b l sa Z sb X) (hb : Bel w w') : Two w0 w' a b l sa Z sb X := h.keep (.of_bel hb fun _ => False) (fun _ f => f.elim) fun _ _ f => f
end two

theorem l10 {w : World} {s t : Value} {Y Y2 : List (Part × List By)} {n : Int} (hv : Parts w s Y) (hv2 : Parts w t Y2) : Brings (s10 s t (.int .u32 n) w) (Yes w) := by
  unfold s10
  have h63 := hv.small
  have h64 := hv2.small
  refine (k12 hv).bind ?_
  rintro ⟨_, w1⟩ ⟨a, b, h1, T⟩
  simp only at h1 T
  subst h1
  simp only [go_sem]
  refine k13.bind ?_
  rintro ⟨_, w2⟩ ⟨h1, b2⟩
  simp only at h1 b2
  subst h1
  simp only [Bool.not_true, go_sem]
  obtain ⟨sa, Z, sb, X, T⟩ := (T.bel b2).two
  refine (k24 T.A).bind ?_
  rintro ⟨_, w3⟩ ⟨c, sm, h1, b3, C, fC⟩
  simp only at h1 b3 C
  subst h1
  have T3 := T.later b3
  have O3 : One w w3 (AllOf a b sa Z sb X) c (partsM [] (Y.take 30)) := ⟨T3.bel, T.fine, T3.lt, sm, Z, C, fun k hk => ⟨by have := fC k hk; have := T.bel.size; omega, fun hU => by have := T.lt k hU; have := fC k hk; omega⟩⟩
  refine Brings.loop (fun m xs w' => ∃ (i : Nat) (l' : List M), xs = [s, t, .int .u32 n, .bool false, .pointer (some ⟨a, 0, none⟩), .pointer (some ⟨b, 0, none⟩), .pointer (some ⟨c, 0, none⟩), .int .i64 i] ∧ i ≤ Y2.length ∧ i ≤ 20 ∧ m = 20 - i ∧ Two w w' a b (partsM [] (Y.take 30)) sa Z sb X ∧ One w w' (AllOf a b sa Z sb X) c l') ?_ 20 _ _
    ⟨0, _, rfl, by omega, by omega, by omega, T3, O3⟩
  rintro m xs w' ⟨i, l', rfl, hi, hi20, hm, T4, O4⟩
  have fin : Brings (s10R0 (.exit 0) [s, t, .int .u32 n, .bool false, .pointer (some ⟨a, 0, none⟩), .pointer (some ⟨b, 0, none⟩), .pointer (some ⟨c, 0, none⟩), .int .i64 i] w') (Yes w) := by
    simp only [s10R0]
    refine Brings.loop (fun m xs w' => ∃ i : Nat, xs = [s, .int .u32 n, .bool false, .pointer (some ⟨a, 0, none⟩), .pointer (some ⟨b, 0, none⟩), .int .i64 i] ∧ i ≤ Y.length ∧ i ≤ 30 ∧ m = 30 - i ∧ Two w w' a b (partsM [] (Y.take 30)) sa Z sb X) ?_ 30 _ _
      ⟨0, rfl, by omega, by omega, by omega, T4⟩
    rintro m xs w' ⟨i, rfl, hi, hi30, hm, T⟩
    have fin2 : Brings (s10R1 (.exit 2) [s, .int .u32 n, .bool false, .pointer (some ⟨a, 0, none⟩), .pointer (some ⟨b, 0, none⟩), .int .i64 i] w') (Yes w) := by
      simp only [s10R1, build41n, go_sem]
      refine (k22 T.both).bind ?_
      rintro ⟨_, w3⟩ ⟨h1, b3⟩
      simp only at h1 b3
      subst h1
      simp only [go_sem]
      exact .ret ⟨rfl, T.bel.trans b3⟩
    simp only [s10B1, hv.lenq, go_sem]
    by_cases h1 : i < Y.length
    · have e1 : decide ((i : Int) < Y.length) = true := by rw [decide_eq_true_iff]; omega
      by_cases h2 : i < 30
      · have e2 : decide ((i : Int) < 30) = true := by rw [decide_eq_true_iff]; omega
        have bd : Bel w' w'.drew := (Bel.refl _).drew
        have T1 := T.later bd
        obtain ⟨y, g, o, hy, hix, hc, ht⟩ := (hv.bel T1.bel).at_ h1
        simp only [e1, e2, hix, Part.f0 hc, Part.f1 hc, go_sem]
        refine (k23 T1.A T1.fine).bind ?_
        rintro ⟨_, w3⟩ ⟨b3, v, e3, o3, f3⟩
        simp only at e3 b3 o3
        subst e3
        have T3 := T1.later b3
        have w1' : IntKind.i64.wrap ((i : Int) + 1) = ((i + 1 : Nat) : Int) := by rw [wrap_i64 (by omega) (by omega)]; rfl
        have step : ∀ w4, Two w w4 a b (partsM [] (Y.take 30)) sa Z sb X → Brings (s10M2 s (.int .u32 n) (.bool false) (.pointer (some ⟨a, 0, none⟩)) (.pointer (some ⟨b, 0, none⟩)) (.int .i64 i) w4)
            (fun r => (r.1 = .normal ∧ ∃ m', m' < m ∧ ∃ i : Nat, r.2.1 = [s, .int .u32 n, .bool false, .pointer (some ⟨a, 0, none⟩), .pointer (some ⟨b, 0, none⟩), .int .i64 i] ∧ i ≤ Y.length ∧ i ≤ 30 ∧ m' = 30 - i ∧ Two w r.2.2 a b (partsM [] (Y.take 30)) sa Z sb X) ∨ (r.1 ≠ .normal ∧ Brings (s10R1 r.1 r.2.1 r.2.2) (Yes w))) := by
          intro w4 T4
          obtain ⟨y', g', o', hy', hix', hc', ht'⟩ := (hv.bel T4.bel).at_ h1
          unfold s10M2
          simp only [hix', Part.all hc', go_sem]
          refine (k22 T4.both).bind ?_
          rintro ⟨_, w5⟩ ⟨h1, b5⟩
          simp only at h1 b5
          subst h1
          simp only [Bool.not_true, go_sem]
          rw [w1']
          exact .ret (.inl ⟨rfl, 30 - (i + 1), by omega, i + 1, rfl, by omega, by omega, rfl, T4.later b5⟩)
        cases hf : findM (partsM [] (Y.take 30)) y.1.start y.1.was with
        | none =>
          simp only [hf, Option.isSome_none, go_sem]
          exact step w3 T3
        | some bs =>
          rw [hf] at o3
          simp only [hf, Option.isSome_some, go_sem]
          simp only [Option.getD_some] at o3
          have hbs : 0 < bs.length := by
            unfold findM at hf
            cases e : (partsM [] (Y.take 30)).find? fun p => p.start == y.1.start && p.was == y.1.was with
            | none => rw [e] at hf; cases hf
            | some p =>
              rw [e] at hf
              injection hf with hf
              have := T.fine p (List.mem_of_find?_eq_some e)
              have hf : p.bs = bs := hf
              rw [← hf]
              omega
          obtain ⟨x, g1, q1, hx, hg1, hix1, hc1⟩ := By.getR o3.view (n := 0) (by omega) (by omega)
          obtain ⟨ti, hti, hts⟩ := inf5
          obtain ⟨g2, hg2, hix2, w4, hst, _, hc4⟩ := own_set1 (u := .int .u8 ((IntKind.u8).wrap (x.b + 1))) By.und34 hti hts o3 (j := 0) hbs rfl rfl
          have e0 : ((0 : Nat) : Int) = 0 := rfl
          rw [e0] at hix2
          have hld : Qload Try.prog 5 (.pointer (some ⟨g2, 0, none⟩)) w3 = some (.int .u8 x.b) := by
            have := (hix1 w3).symm.trans (hix2 w3)
            injection this with this; injection this with this; injection this with this; injection this with h1 h2
            subst h1 h2
            exact By.all hc1
          simp only [hix2, hld, hst, go_sem]
          refine step w4 (T3.keep hc4 ?_ ?_)
          · rintro k rfl
            have := f3 k hg2
            have := T1.bel.size
            omega
          · rintro k hk rfl
            have := f3 k hg2
            have := T1.lt k hk
            omega
      · have e2 : decide ((i : Int) < 30) = false := by rw [decide_eq_false_iff_not]; omega
        simp only [e1, e2, go_sem]
        exact .ret (.inr ⟨by simp, fin2⟩)
    · have e1 : decide ((i : Int) < Y.length) = false := by rw [decide_eq_false_iff_not]; omega
      simp only [e1, go_sem]
      exact .ret (.inr ⟨by simp, fin2⟩)
  simp only [s10B0, hv2.lenq, go_sem]
  by_cases h1 : i < Y2.length
  · have e1 : decide ((i : Int) < Y2.length) = true := by rw [decide_eq_true_iff]; omega
    by_cases h2 : i < 20
    · have e2 : decide ((i : Int) < 20) = true := by rw [decide_eq_true_iff]; omega
      have bd : Bel w' w'.drew := (Bel.refl _).drew
      have T1 := T4.later bd
      have O1 := O4.bel bd
      obtain ⟨y, g, o, hy, hix, hc, ht⟩ := (hv2.bel T1.bel).at_ h1
      have hu := u32_ok ht.2.1.1
      simp only [e1, e2, hix, Part.f0 hc, Part.f1 hc, Part.f2 hc, go_sem]
      refine (O1.add (p := toM y) ht.1 hu.1 hu.2).bind ?_
      rintro ⟨_, w3⟩ ⟨e3, c3, O3⟩
      simp only at e3 c3 O3
      subst e3
      have w1' : IntKind.i64.wrap ((i : Int) + 1) = ((i + 1 : Nat) : Int) := by rw [wrap_i64 (by omega) (by omega)]; rfl
      simp only [go_sem]
      rw [w1']
      exact .ret (.inl ⟨rfl, 20 - (i + 1), by omega, i + 1, _, rfl, by omega, by omega, rfl, T1.keep c3 (fun k hk => hk.1) (fun k hk hS => hS.2 hk), O3⟩)
    · have e2 : decide ((i : Int) < 20) = false := by rw [decide_eq_false_iff_not]; omega
      simp only [e1, e2, go_sem]
      exact .ret (.inr ⟨by simp, fin⟩)
  · have e1 : decide ((i : Int) < Y2.length) = false := by rw [decide_eq_false_iff_not]; omega
    simp only [e1, go_sem]
    exact .ret (.inr ⟨by simp, fin⟩)

theorem law10 {v0 v1 : Value} {n0 n1 : Nat} {m : Int} {w : World} {r0 r1 : Reach} {b0 b1 : Nat} (ho0 : Value.okWide Try.prog w r0 b0 22 v0) (h0 : Okc Try.prog w n0 22 v0.cells.toList) (ho1 : Value.okWide Try.prog w r1 b1 22 v1) (h1 : Okc Try.prog w n1 22 v1.cells.toList) (_ : (Lit.int .u32 m).wf = true) :
    Calls Try.prog 10 #[v0, v1, .int .u32 m] w fun e w' => e = .returned (.bool true) ∧ Below w.heap.size w w' := by
  obtain ⟨Y, hv⟩ := parts_of ho0 h0
  obtain ⟨Y2, hv2⟩ := parts_of ho1 h1
  exact law_of (l10 hv hv2) fun _ => c10

end Go.Proofs.Ytfakpdegiobpaaa
