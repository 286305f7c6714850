/- The pool: what holds of lists of what is taken; nil pools. -/
import Derived.Test.YtebhknagnkcldaaDoorPo9
namespace Go.Proofs.YtebhknagnkcldaaDoor
open Go Go.Ev Go.RowKit
open Go.Proofs

def Yes (w : World) (r : Value × World) : Prop := r.1 = .bool true ∧ Bel w r.2

theorem insN_asc {lo hi f m : Nat} {U : List Nat} (hB : Bnd lo hi U) (hf : freeN lo hi U f m = true) : Asc (insN U f m) := (bnd_insN hB hf (Nat.le_refl _)).asc
theorem ins_len {n : Nat} : ∀ {l : List Nat}, (ins n l).length = l.length + 1
  | [] => rfl
  | x :: l => by
    unfold ins
    split
    · rfl
    · rw [List.length_cons, ins_len, List.length_cons]
theorem insN_len {U : List Nat} {n : Nat} : ∀ {i : Nat}, (insN U n i).length = U.length + i
  | 0 => rfl
  | i + 1 => by rw [insN, ins_len, insN_len]; omega

theorem back1 {lo hi f : Nat} {U : List Nat} (hB : Bnd lo hi U) (hf : freeN lo hi U f 1 = true) : giveN (insN U f 1) f = (0, U) := by
  have f0 := free_at hf (show 0 < 1 by omega)
  unfold giveN
  rw [if_pos (mem_insN.2 (.inr ⟨Nat.le_refl _, by omega⟩))]
  congr 1
  refine asc_ext (asc_filter _ (insN_asc hB hf)) hB.asc fun n => ?_
  simp only [List.mem_filter, mem_insN, decide_eq_true_eq]
  constructor
  · rintro ⟨h | h, hne⟩
    · exact h
    · omega
  · intro h
    exact ⟨.inl h, fun e => f0.2.2 (by rw [Nat.add_zero, ← e]; exact h)⟩
theorem back2 {lo hi f : Nat} {U : List Nat} (hB : Bnd lo hi U) (hf : freeN lo hi U f 2 = true) : (giveN (insN U f 2) f).1 = 0 ∧ giveN (giveN (insN U f 2) f).2 (f + 1) = (0, U) := by
  have f0 := free_at hf (show 0 < 2 by omega)
  have f1 := free_at hf (show 1 < 2 by omega)
  have e1 : giveN (insN U f 2) f = (0, (insN U f 2).filter fun k => decide (k ≠ f)) := by
    unfold giveN
    rw [if_pos (mem_insN.2 (.inr ⟨Nat.le_refl _, by omega⟩))]
  refine ⟨by rw [e1], ?_⟩
  rw [e1]
  unfold giveN
  rw [if_pos (by
    simp only [List.mem_filter, mem_insN, decide_eq_true_eq]
    exact ⟨.inr ⟨by omega, by omega⟩, by omega⟩)]
  congr 1
  refine asc_ext (asc_filter _ (asc_filter _ (insN_asc hB hf))) hB.asc fun n => ?_
  simp only [List.mem_filter, mem_insN, decide_eq_true_eq]
  constructor
  · rintro ⟨⟨h | h, hne⟩, hne2⟩
    · exact h
    · omega
  · intro h
    exact ⟨⟨.inl h, fun e => f0.2.2 (by rw [Nat.add_zero, ← e]; exact h)⟩, fun e => f1.2.2 (by rw [← e]; exact h)⟩

theorem asc_range {lo m : Nat} : Asc ((List.range m).map (lo + ·)) := List.pairwise_map.2 (List.pairwise_lt_range.imp fun h => by omega)
theorem full_len {lo hi : Nat} {U : List Nat} (hB : Bnd lo hi U) (h : ∀ n, lo ≤ n → n ≤ hi → n ∈ U) : U.length = hi + 1 - lo := by
  have : U = (List.range (hi + 1 - lo)).map (lo + ·) := asc_ext hB.asc asc_range fun n => by
    simp only [List.mem_map, List.mem_range]
    constructor
    · intro hn
      have := hB.mem n hn
      exact ⟨n - lo, by omega, by omega⟩
    · rintro ⟨k, hk, rfl⟩
      exact h _ (by omega) (by omega)
  rw [this, List.length_map, List.length_range]
theorem least_le {lo hi m n : Nat} {U : List Nat} (hB : Bnd lo hi U) (hm : 1 ≤ m) (hc : condN lo hi U m n = true) : leastN lo hi U m ≤ n ∧ leastN lo hi U m ≠ 0 := by
  have hn := cond_pos hB hm hc
  unfold leastN
  cases e : (List.range (hi + 1)).find? (condN lo hi U m) with
  | none =>
    rw [List.find?_eq_none] at e
    exact absurd hc (e n (by simpa using (by omega : n < hi + 1)))
  | some k =>
    rw [List.find?_range_eq_some] at e
    obtain ⟨h1, h2, h3⟩ := e
    refine ⟨?_, (cond_pos hB hm h1).1⟩
    show k ≤ n
    rcases Nat.lt_or_ge n k with h | h
    · have := h3 n h
      rw [hc] at this
      cases this
    · exact h
theorem none_full {lo hi : Nat} {U : List Nat} (hB : Bnd lo hi U) (h : leastN lo hi U 1 = 0) : ∀ n, lo ≤ n → n ≤ hi → n ∈ U := fun n h1 h2 => by
  by_cases c : n ∈ U
  · exact c
  · have : condN lo hi U 1 n = true := by
      rw [cond1]
      unfold okN
      simp only [Bool.and_eq_true, decide_eq_true_eq]
      exact ⟨⟨h1, h2⟩, c⟩
    exact absurd h (least_le hB (Nat.le_refl 1) this).2
theorem none_taken {lo hi n : Nat} {U : List Nat} (hB : Bnd lo hi U) (h : leastN lo hi U 1 = 0) : takenN lo hi U n 1 = 0 := by
  unfold takenN
  split
  · next hc => exact absurd h (least_le hB (Nat.le_refl 1) hc).2
  · exact h
theorem taken_none {lo hi n : Nat} {U : List Nat} (hB : Bnd lo hi U) (h : takenN lo hi U n 1 = 0) : leastN lo hi U 1 = 0 := by
  unfold takenN at h
  split at h
  · next hc => exact absurd h (cond_pos hB (Nat.le_refl 1) hc).1
  · exact h
theorem take_err {lo hi n m : Nat} {U : List Nat} (h : takenN lo hi U n m = 0) : takeN lo hi U n m = ((0, 9), U) := by unfold takeN; rw [if_pos h]
theorem take_ok {lo hi n m : Nat} {U : List Nat} (h : takenN lo hi U n m ≠ 0) : takeN lo hi U n m = ((takenN lo hi U n m, 0), insN U (takenN lo hi U n m) m) := by unfold takeN; rw [if_neg h]

/-! ## Nil pools -/

section none_
variable {w : World} {n : Int}
theorem k28n {m : Int} : Brings (Xcall Tryd.prog (Value.func (Fn.func 28) #[] #[]) #[.pointer none, .int .i64 n, .int .i64 m] w) (fun r => r = (.tuple #[.int .u16 0, .int .i64 1], w)) := by
  refine e28 ?_
  unfold s28
  simp only [go_sem, Qb_eqlP (P := Tryd.prog) (t := 24) (e := 53) ptr24, Option.isNone_none]
  exact .ret rfl
theorem cv16 (n : Int) : Qconv Tryd.prog 22 3 (.int .u16 n) = some (.int .i64 (IntKind.i64.wrap n)) := Qconv_int (k := .i64) (by kernel_rfl)
theorem k15n : Brings (Xcall Tryd.prog (Value.func (Fn.func 15) #[] #[]) #[.pointer none, .int .u16 n] w) (fun r => r = (.tuple #[.int .u16 0, .int .i64 1], w)) := by
  refine e15 ?_
  unfold s15
  simp only [cv16, go_sem]
  refine k28n.bind ?_
  rintro _ rfl
  simp only [go_sem]
  exact .ret rfl
theorem k19n : Brings (Xcall Tryd.prog (Value.func (Fn.func 19) #[] #[]) #[.pointer none, .int .u16 n] w) (fun r => r = (.tuple #[.int .u16 0, .int .i64 1], w)) := by
  refine e19 ?_
  unfold s19
  simp only [cv16, go_sem]
  refine k28n.bind ?_
  rintro _ rfl
  simp only [go_sem]
  exact .ret rfl
theorem k18n : Brings (Xcall Tryd.prog (Value.func (Fn.func 18) #[] #[]) #[.pointer none, .int .u16 n] w) (fun r => r = (.int .i64 1, w)) := by
  refine e18 ?_
  unfold s18
  simp only [go_sem, Qb_eqlP (P := Tryd.prog) (t := 24) (e := 53) ptr24, Option.isNone_none]
  exact .ret rfl
theorem k16n : Brings (Xcall Tryd.prog (Value.func (Fn.func 16) #[] #[]) #[.pointer none, .int .u16 n] w) (fun r => r = (.bool false, w)) := by
  refine e16 ?_
  unfold s16
  simp only [go_sem, Qb_neqP (P := Tryd.prog) (t := 24) (e := 53) ptr24, Option.isSome_none]
  exact .ret rfl
theorem k17n : Brings (Xcall Tryd.prog (Value.func (Fn.func 17) #[] #[]) #[.pointer none] w) (fun r => r = (.slice none 0 0, w)) := by
  refine e17 ?_
  unfold s17
  simp only [go_sem, Qb_eqlP (P := Tryd.prog) (t := 24) (e := 53) ptr24, Option.isNone_none]
  exact .ret rfl
theorem k14n : Brings (Xcall Tryd.prog (Value.func (Fn.func 14) #[] #[]) #[.pointer none] w) (fun r => r = (.int .i64 0, w)) := by
  refine e14 ?_
  unfold s14
  simp only [go_sem, Qb_eqlP (P := Tryd.prog) (t := 24) (e := 53) ptr24, Option.isNone_none]
  exact .ret rfl
theorem k20n : Brings (Xcall Tryd.prog (Value.func (Fn.func 20) #[] #[]) #[.pointer none] w) (fun r => r = (.pointer none, w)) := by
  refine e20 ?_
  unfold s20
  simp only [go_sem, Qb_eqlP (P := Tryd.prog) (t := 24) (e := 53) ptr24, Option.isNone_none]
  exact .ret rfl
end none_

theorem und33 : Tryd.prog.underlying 33 = some (.slice 22) := by kernel_rfl

theorem l8 {w : World} {lo hi : Nat} (hT : Tab w) (h1 : lo < 65536) (h2 : hi < 65536) : Brings (s8 (.int .u16 (lo : Int)) (.int .u16 (hi : Int)) w) (Yes w) := by
  unfold s8
  refine k15n.bind ?_
  rintro _ rfl
  simp only [go_sem]
  refine k19n.bind ?_
  rintro _ rfl
  simp only [go_sem]
  refine (k12 hT).bind ?_
  rintro ⟨_, w1⟩ ⟨e1, b1⟩
  simp only at e1 b1
  subst e1
  simp only [go_sem, beq_self_eq_true]
  refine k18n.bind ?_
  rintro _ rfl
  simp only [go_sem, beq_self_eq_true]
  refine k16n.bind ?_
  rintro _ rfl
  simp only [go_sem, Bool.not_false]
  refine k17n.bind ?_
  rintro _ rfl
  have q0 : Qlen Tryd.prog #[33] 3 #[.slice none 0 0] w1 = some (.int .i64 ((0 : Nat) : Int)) := Qlen_slice und33
  simp only [go_sem, q0, show (((0 : Nat) : Int) == 0) = true from rfl]
  refine k14n.bind ?_
  rintro _ rfl
  simp only [go_sem, beq_self_eq_true]
  refine k20n.bind ?_
  rintro _ rfl
  simp only [go_sem, Qb_eqlP (P := Tryd.prog) (t := 24) (e := 53) ptr24, Option.isNone_none]
  refine (k23 h1 h2).bind ?_
  have qb : ∀ x y : Bool, Qbin Tryd.prog .eql 4 (.bool x) (.bool y) = some (.bool (x == y)) := fun x y => Qb_eqlB (by kernel_rfl)
  have key : ∀ p : Bool, p = !mayNew lo hi → ∀ w2, Bel w w2 → Brings (((Qbin Tryd.prog .eql 22 (.int .u16 (lo : Int)) (.int .u16 0)).bind fun v187 => (guardQ v187 false (Qbin Tryd.prog Go.BinOp.gtr 22 (gv (isB v187 false) (.int .u16 (lo : Int))) (gv (isB v187 false) (.int .u16 (hi : Int))))).bind fun v188 => (Qpick v187 (.bool true) v188).bind fun v189 => (Qbin Tryd.prog .eql 4 (.bool p) v189).bind fun v190 => some (v190, w2))) (Yes w) := by
    rintro p rfl w2 b2
    simp only [go_sem]
    by_cases c1 : lo = 0
    · have e1 : ((lo : Int) == 0) = true := by rw [c1]; rfl
      simp only [e1, go_sem, qb]
      refine .ret ⟨?_, b2⟩
      simp [mayNew, c1]
    · have e1 : ((lo : Int) == 0) = false := by rw [beq_eq_false_iff_ne]; omega
      simp only [e1, go_sem, qb]
      refine .ret ⟨?_, b2⟩
      simp [mayNew, c1]
      by_cases c2 : lo ≤ hi
      · have c3 : ¬ hi < lo := by omega
        simp [c2, c3]
      · have c3 : hi < lo := by omega
        simp [c2, c3]
  have pe : ∀ x : Option Addr, Qbin Tryd.prog .eql 24 (.pointer x) (.pointer none) = some (.bool x.isNone) := fun x => Qb_eqlP (e := 53) ptr24
  rintro ⟨_, w2⟩ ⟨b2, ⟨hn, hp⟩ | ⟨hn, a, hp, _, _⟩⟩ <;> simp only at hp b2 <;> subst hp
  · have := key true (by rw [hn]; rfl) w2 (b1.trans b2)
    by_cases c1 : lo = 0
    · have e1 : ((lo : Int) == 0) = true := by rw [c1]; rfl
      simp only [e1, go_sem, qb, pe, Option.isNone_none] at this ⊢
      exact this
    · have e1 : ((lo : Int) == 0) = false := by rw [beq_eq_false_iff_ne]; omega
      simp only [e1, go_sem, qb, pe, Option.isNone_none] at this ⊢
      exact this
  · have := key false (by rw [hn]; rfl) w2 (b1.trans b2)
    by_cases c1 : lo = 0
    · have e1 : ((lo : Int) == 0) = true := by rw [c1]; rfl
      simp only [e1, go_sem, qb, pe, Option.isNone_some] at this ⊢
      exact this
    · have e1 : ((lo : Int) == 0) = false := by rw [beq_eq_false_iff_ne]; omega
      simp only [e1, go_sem, qb, pe, Option.isNone_some] at this ⊢
      exact this

theorem nat16 {m : Int} (h : (Lit.int .u16 m).wf = true) : ∃ n : Nat, m = n ∧ n < 65536 := wf_u (k := .u16) rfl h
theorem law8 {m k : Int} {w : World} (hT : Tab w) (h1 : (Lit.int .u16 m).wf = true) (h2 : (Lit.int .u16 k).wf = true) :
    Calls Tryd.prog 8 #[.int .u16 m, .int .u16 k] w fun e w' => e = .returned (.bool true) ∧ Below w.heap.size w w' := by
  obtain ⟨a, rfl, ha⟩ := nat16 h1
  obtain ⟨b, rfl, hb⟩ := nat16 h2
  exact law_of (l8 hT ha hb) fun _ => c8

theorem deeds {v : Value} {n : Nat} {w : World} {r : Reach} {b : Nat} (ho : Value.okWide Tryd.prog w r b 23 v) (h : Okc Tryd.prog w n 23 v.cells.toList) : ∃ ds : List Deed, View Deed.cs 2 w v ds ∧ ∀ x ∈ ds, x.ok :=
  view_okc und23 (by kernel_rfl) (by decide) (cells_slice und23 ho) (fun _ _ h => okc29 h) h

/-- The number that is asked of. -/
theorem pick_n {K : Value → Option (Value × World)} {Q : Value × World → Prop} {w : World} {s : Value} {ds : List Deed} {low : Nat} (hv : View Deed.cs 2 w s ds) (hok : ∀ x ∈ ds, x.ok) (hl : low < 65536) (hK : ∀ n : Nat, n < 65536 → Brings (K (.int .u16 (n : Int))) Q) :
    Brings ((Qlen Tryd.prog #[23] 3 #[s] w).bind fun v5 => (Qbin Tryd.prog .gtr 3 v5 (.int .i64 0)).bind fun v6 => condK v6 ((QindexAddr Tryd.prog 23 s (.int .i64 0) w).bind fun v7 => (QfieldAddr Tryd.prog 29 v7 1).bind fun v8 => (Qload Tryd.prog 22 v8 w).bind fun v9 => K v9) (K (.int .u16 (low : Int)))) Q := by
  simp only [hv.len und23, go_sem]
  refine .cond (fun hc => ?_) (fun _ => hK low hl)
  have hc : 0 < ds.length := by
    have : (0 : Int) < ds.length := by simpa using hc
    omega
  obtain ⟨t, ht, hts⟩ := inf29
  obtain ⟨x, g, o, hx, _, hix, hcl⟩ := hv.get und23 ht hts (n := 0) (by omega) (by omega)
  obtain ⟨n, hn, hn16⟩ := nat16 (hok x (List.mem_of_getElem? hx)).2
  simp only [hix, Deed.f1 hcl, hn, go_sem]
  exact hK n hn16

end Go.Proofs.YtebhknagnkcldaaDoor
