/- Finds; Forks. -/
import Derived.Test.YtfakpdegiobpaaaSe22
namespace Go.Proofs.Ytfakpdegiobpaaa
open Go Go.Ev Go.RowKit
open Go.Proofs

theorem parts_pre : ∀ (Y : List (Part × List By)) (l : List M), ∃ m, partsM l Y = l ++ m
  | [], l => ⟨[], by simp [partsM]⟩
  | y :: Y, l => by
    obtain ⟨m, hm⟩ := parts_pre Y (addM l (toM y)).2
    have : partsM l (y :: Y) = partsM (addM l (toM y)).2 Y := rfl
    rw [this, hm]
    rcases add_cases l (toM y) with ⟨_, e, _⟩ | ⟨_, e⟩
    · rw [e]; exact ⟨toM y :: m, by simp⟩
    · rw [e]; exact ⟨m, rfl⟩
theorem parts_take (Y : List (Part × List By)) {i n : Nat} (h : i ≤ n) : ∃ m, partsM [] (Y.take n) = partsM [] (Y.take i) ++ m := by
  have e : Y.take n = Y.take i ++ (Y.take n).drop i := by
    have := List.take_append_drop i (Y.take n)
    rw [List.take_take, Nat.min_eq_left h] at this
    exact this.symm
  rw [e]
  unfold partsM
  rw [List.foldl_append]
  exact parts_pre _ _
theorem find_pre {l m : List M} {s u : Int} {bs : List By} (h : findM l s u = some bs) : findM (l ++ m) s u = some bs := by
  unfold findM at h ⊢
  rw [List.find?_append]
  cases e : l.find? fun p => p.start == s && p.was == u with
  | none => rw [e] at h; cases h
  | some p => rw [e] at h; exact h
theorem find_last (l : List M) (p : M) : (findM (l ++ [p]) p.start p.was).isSome = true := by
  unfold findM
  rw [Option.isSome_map, List.find?_isSome]
  exact ⟨p, by simp, by simp⟩

theorem l8 {w : World} {s : Value} {Y : List (Part × List By)} (hv : Parts w s Y) : Brings (s8 s w) (Yes w) := by
  unfold s8
  have h63 := hv.small
  refine (k12 hv).bind ?_
  rintro ⟨_, w1⟩ ⟨a, b, h1, T⟩
  simp only at h1 T
  subst h1
  simp only [go_sem]
  obtain ⟨B1, hfine, sa, Z, _, _, A, _, _, fA, _⟩ := T
  have lA := A.lt
  have lR : ∀ k, Reads Pt.text Z k → k < w1.heap.size := fun k ⟨z, hz, hk⟩ => (A.texts z hz).1.lt hk
  refine (one_new B1 (fun k => Foot a sa k ∨ Reads Pt.text Z k) fun k hk => hk.elim (lA k) (lR k)).bind ?_
  rintro ⟨_, w2⟩ ⟨t, h1, b2, o2⟩
  simp only at h1 b2 o2
  subst h1
  refine Brings.loop (fun m xs w' => ∃ i : Nat, xs = [s, .bool false, .pointer (some ⟨a, 0, none⟩), .bool true, .pointer (some ⟨t, 0, none⟩), .int .i64 i] ∧ i ≤ Y.length ∧ i ≤ 30 ∧ m = 30 - i ∧ One w w' (fun k => Foot a sa k ∨ Reads Pt.text Z k) t (partsM [] (Y.take i)) ∧ St w' a sa Z (partsM [] (Y.take 30))) ?_ 30 _ _
    ⟨0, rfl, by omega, by omega, by omega, o2, A.bel b2⟩
  rintro m xs w' ⟨i, rfl, hi, hi30, hm, T, A⟩
  have fin : ¬ (i < Y.length ∧ i < 30) → Brings (s8R0 (.exit 0) [s, .bool false, .pointer (some ⟨a, 0, none⟩), .bool true, .pointer (some ⟨t, 0, none⟩), .int .i64 i] w') (Yes w) := fun hn => by
    rw [take_all hi hi30 hn] at A
    simp only [s8R0]
    refine k13.bind ?_
    rintro ⟨_, w3⟩ ⟨h1, b3⟩
    simp only at h1 b3
    subst h1
    obtain ⟨st, X, S⟩ := T.st
    simp only [go_sem]
    refine (k21 (A.bel b3)).bind ?_
    rintro _ rfl
    simp only [go_sem]
    refine (k21 (S.bel b3)).bind ?_
    rintro _ rfl
    simp only [beq_self_eq_true, go_sem]
    refine (k21 (A.bel b3)).bind ?_
    rintro _ rfl
    have h8 := A.most
    have : decide (((partsM [] (Y.take i)).length : Int) ≤ 8) = true := by rw [decide_eq_true_iff]; omega
    simp only [this, go_sem]
    exact .ret ⟨rfl, T.1.trans b3⟩
  simp only [s8B0, hv.lenq, go_sem]
  by_cases h1 : i < Y.length
  · have e1 : decide ((i : Int) < Y.length) = true := by rw [decide_eq_true_iff]; omega
    by_cases h2 : i < 30
    · have e2 : decide ((i : Int) < 30) = true := by rw [decide_eq_true_iff]; omega
      have bd : Bel w' w'.drew := (Bel.refl _).drew
      have T1 := T.bel bd
      obtain ⟨y, g, o, hy, hix, hc, ht⟩ := (hv.bel T1.1).at_ h1
      have hu := u32_ok ht.2.1.1
      simp only [e1, e2, hix, Part.f0 hc, Part.f1 hc, Part.f2 hc, go_sem]
      refine (T1.add (p := toM y) ht.1 hu.1 hu.2).bind ?_
      rintro ⟨_, w3⟩ ⟨e3, c3, T3⟩
      simp only at e3 c3 T3
      subst e3
      have A3 : St w3 a sa Z (partsM [] (Y.take 30)) := (A.bel bd).keep c3 (fun k hk hn => hn.2 (.inl hk)) fun k hk hn => hn.2 (.inr hk)
      have w1' : IntKind.i64.wrap ((i : Int) + 1) = ((i + 1 : Nat) : Int) := by rw [wrap_i64 (by omega) (by omega)]; rfl
      have hstep := parts_step hy []
      rw [← hstep] at T3
      obtain ⟨mm, hmm⟩ := parts_take Y (show i + 1 ≤ 30 by omega)
      rcases add_cases (partsM [] (Y.take i)) (toM y) with ⟨a1, a2, _⟩ | ⟨a1, a2⟩
      · simp only [a1, bne_self_eq_false, go_sem]
        have hfind : ∀ s u bs, findM (partsM [] (Y.take (i + 1))) s u = some bs → findM (partsM [] (Y.take 30)) s u = some bs := fun s u bs h => by rw [hmm]; exact find_pre h
        have hlast : (findM (partsM [] (Y.take (i + 1))) y.1.start y.1.was).isSome = true := by rw [hstep, a2]; exact find_last _ (toM y)
        refine Brings.loop (fun m xs w4 => ∃ j : Nat, xs = [s, .bool false, .pointer (some ⟨a, 0, none⟩), .bool true, .pointer (some ⟨t, 0, none⟩), .int .i64 i, .int .i64 j] ∧ j ≤ i + 1 ∧ m = i + 1 - j ∧ One w w4 (fun k => Foot a sa k ∨ Reads Pt.text Z k) t (partsM [] (Y.take (i + 1))) ∧ St w4 a sa Z (partsM [] (Y.take 30))) ?_ (i + 1) _ _
          ⟨0, rfl, by omega, by omega, T3, A3⟩
        rintro m4 xs4 w4 ⟨j, rfl, hj, hm4, T4, A4⟩
        simp only [s8B1, go_sem]
        refine .cond (fun hle => ?_) (fun hle => ?_)
        · have hle : j ≤ i := by
            have : (j : Int) ≤ i := by simpa using hle
            omega
          have bd4 : Bel w4 w4.drew := (Bel.refl _).drew
          have T5 := T4.bel bd4
          obtain ⟨z, g', o', hz, hix', hc', ht'⟩ := (hv.bel T5.1).at_ (show j < Y.length by omega)
          obtain ⟨st, X, S⟩ := T5.st
          simp only [hix', Part.f0 hc', Part.f1 hc', go_sem]
          refine (k23 S T5.2.1).bind ?_
          rintro ⟨_, w6⟩ ⟨b6, v, e6, o6, _⟩
          simp only at e6 b6 o6
          subst e6
          have bd6 : Bel w6 w6.drew := (Bel.refl _).drew
          have hc6 := hc'.bel (b6.trans bd6)
          simp only [hix', Part.f0 hc6, Part.f1 hc6, go_sem]
          have A6 := ((A4.bel bd4).bel b6).bel bd6
          refine (k23 A6 hfine).bind ?_
          rintro ⟨_, w7⟩ ⟨b7, v', e7, o7, _⟩
          simp only at e7 b7 o7
          subst e7
          have T7 := ((T5.bel b6).bel bd6).bel b7
          have A7 := A6.bel b7
          have w2' : IntKind.i64.wrap ((j : Int) + 1) = ((j + 1 : Nat) : Int) := by rw [wrap_i64 (by omega) (by omega)]; rfl
          cases hf : findM (partsM [] (Y.take (i + 1))) z.1.start z.1.was with
          | none =>
            simp only [hf, Option.isSome_none, go_sem]
            rw [w2']
            exact .ret (.inl ⟨rfl, i + 1 - (j + 1), by omega, j + 1, rfl, by omega, rfl, T7, A7⟩)
          | some bs =>
            have hf2 := hfind _ _ _ hf
            rw [hf] at o6
            rw [hf2] at o7
            simp only [Option.getD_some] at o6 o7
            simp only [hf, hf2, Option.isSome_some, Bool.not_true, go_sem, cv34 ((o6.view.bel bd6).bel b7), cv34 o7.view, beq_self_eq_true]
            rw [w2']
            exact .ret (.inl ⟨rfl, i + 1 - (j + 1), by omega, j + 1, rfl, by omega, rfl, T7, A7⟩)
        · have hj : j = i + 1 := by
            have : ¬ (j : Int) ≤ i := by simpa using hle
            omega
          refine .ret (.inr ⟨by simp, ?_⟩)
          have bd4 : Bel w4 w4.drew := (Bel.refl _).drew
          have T5 := T4.bel bd4
          obtain ⟨z, g', o', hz, hix', hc', ht'⟩ := (hv.bel T5.1).at_ h1
          have ez : z = y := by rw [hy] at hz; injection hz with h; exact h.symm
          subst ez
          obtain ⟨st, X, S⟩ := T5.st
          simp only [s8R1, hix', Part.f0 hc', Part.f1 hc', go_sem]
          refine (k23 S T5.2.1).bind ?_
          rintro ⟨_, w6⟩ ⟨b6, v, e6, o6, _⟩
          simp only at e6 b6 o6
          subst e6
          simp only [hlast, Bool.not_true, go_sem]
          rw [w1']
          exact .ret (.inl ⟨rfl, 30 - (i + 1), by omega, i + 1, rfl, by omega, by omega, rfl, T5.bel b6, (A4.bel bd4).bel b6⟩)
      · rw [a2] at hstep
        have : ((addM (partsM [] (Y.take i)) (toM y)).1 != 0) = true := by simpa using a1
        simp only [this, go_sem]
        rw [w1']
        exact .ret (.inl ⟨rfl, 30 - (i + 1), by omega, i + 1, rfl, by omega, by omega, rfl, T3, A3⟩)
    · have e2 : decide ((i : Int) < 30) = false := by rw [decide_eq_false_iff_not]; omega
      simp only [e1, e2, go_sem]
      exact .ret (.inr ⟨by simp, fin (by omega)⟩)
  · have e1 : decide ((i : Int) < Y.length) = false := by rw [decide_eq_false_iff_not]; omega
    simp only [e1, go_sem]
    exact .ret (.inr ⟨by simp, fin (by omega)⟩)

theorem law8 {v0 : Value} {n0 : Nat} {w : World} {r0 : Reach} {b0 : Nat} (ho0 : Value.okWide Try.prog w r0 b0 22 v0) (h0 : Okc Try.prog w n0 22 v0.cells.toList) :
    Calls Try.prog 8 #[v0] w fun e w' => e = .returned (.bool true) ∧ Below w.heap.size w w' := by
  obtain ⟨Y, hv⟩ := parts_of ho0 h0
  exact law_of (l8 hv) fun _ => c8

end Go.Proofs.Ytfakpdegiobpaaa
