/- The pool: taken, whole. -/
import Derived.Test.YtebhknagnkcldaaDoorPo5
namespace Go.Proofs.YtebhknagnkcldaaDoor
open Go Go.Ev Go.RowKit
open Go.Proofs

theorem zero3 (w : World) : (zeroValue 3).run Tryd.prog w = .ok (.int .i64 0) w := by kernel_rfl
theorem alloc3 (w : World) : Xalloc Tryd.prog 3 w = some (.pointer (some ⟨w.heap.size, 0, none⟩), w.alloc (.cells #[.int .i64 0] 3)) := Xalloc_eq (zero3 w)
theorem inf3 : ∃ i, Tryd.prog.info? 3 = some i ∧ i.size = 1 := ⟨(Tryd.prog.info? 3).get (by kernel_rfl), by kernel_rfl, by kernel_rfl⟩
theorem store3 {w : World} {g : Nat} {u : Value} {te : TypeId} {b : Int} (hg : w.heap[g]? = some (.cells #[u] te (0, 0))) : Xstore Tryd.prog 3 (.pointer (some ⟨g, 0, none⟩)) (.int .i64 b) w = some (undef, w.setRow g #[.int .i64 b]) := by
  obtain ⟨i, hi, hs⟩ := inf3
  exact Xstore_var (v := .int .i64 b) hi (by rw [hs]; rfl) hg (by rw [hs]; rfl) (by simp [Value.cells, Value.oneCell'])

theorem k34 {w : World} {x : Option Addr} {m : Int} : Brings (Xcall Tryd.prog (Value.func (Fn.func 34) #[] #[]) #[.pointer x, .int .i64 m] w) (fun r => r = (.func (.func 38) #[] #[.pointer (some ⟨w.heap.size, 0, none⟩), .pointer (some ⟨w.heap.size + 1, 0, none⟩)], (w.alloc (.cells #[.pointer x] 24)).alloc (.cells #[.int .i64 m] 3))) := by
  refine e34 ?_
  unfold s34
  rw [Xbox_eq]
  simp only [go_sem]
  simp only [World.size_alloc]
  exact .ret rfl

theorem r28 {w w1 : World} {a lo hi m wish : Nat} {U : List Nat} {s0 s1 s2 s3 s4 s5 s6 s7 s9 s10 s11 s12 s13 s14 s15 s16 s17 s18 s19 s20 s21 s22 s23 s24 s25 s27 s28 s29 s30 s31 s32 s33 s34 s35 s36 s37 s38 s39 s40 s41 s42 s43 s44 s45 s46 s47 s48 s49 s50 s51 s52 s53 s54 : Value} (h : Pl w a lo hi U) (V1 : Locals w [.cells #[.int .i64 0] 3] w1) (hs1 : w1.heap.size = w.heap.size + 1) (hm : m = 1 ∨ m = 2) (hno : ¬ condN lo hi U m wish = true) :
    Brings ((Xcall Tryd.prog (Value.func (Fn.func 34) #[] #[]) #[.pointer (some ⟨a, 0, none⟩), .int .i64 (m : Int)] w1).bind fun r542 =>
      (evRange Tryd.prog 28 none r542.1 #[27] (nav [1, 1, 1, 0, 1, 1, 1, 0, 0] (bodyOf Tryd.f28)) (nav [1, 1, 1, 0, 1, 1, 1, 0, 1] (bodyOf Tryd.f28)) ⟨[s0, s1, s2, s3, s4, s5, s6, s7, (.pointer (some ⟨w.heap.size, 0, none⟩)), s9, s10, s11, s12, s13, s14, s15, s16, s17, s18, s19, s20, s21, s22, s23, s24, s25, r542.1, s27, s28, s29, s30, s31, s32, s33, s34, s35, s36, s37, s38, s39, s40, s41, s42, s43, s44, s45, s46, s47, s48, s49, s50, s51, s52, s53, s54].toArray, []⟩ r542.2).bind fun x => s28G1R (.pointer (some ⟨a, 0, none⟩)) (.int .i64 (m : Int)) (.pointer (some ⟨w.heap.size, 0, none⟩)) x.2.1.defers x.2.2 x.1)
    (Took w a lo hi (takeN lo hi U wish m)) := by
  have la := h.lt
  refine k34.bind ?_
  rintro _ rfl
  rw [hs1]
  have V2 := V1.add (by rw [hs1]; rfl) (.cells #[.pointer (some ⟨a, 0, none⟩)] 24)
  have V3 := V2.add (by simp [hs1]) (.cells #[.int .i64 (m : Int)] 3)
  have hs3 : ((w1.alloc (.cells #[.pointer (some ⟨a, 0, none⟩)] 24)).alloc (.cells #[.int .i64 (m : Int)] 3)).heap.size = w.heap.size + 3 := by simp [hs1]
  simp only
  generalize (w1.alloc (.cells #[.pointer (some ⟨a, 0, none⟩)] 24)).alloc (.cells #[.int .i64 (m : Int)] 3) = w3 at V3 hs3
  refine Brings.range (f := 38) (fd := Tryd.f38) Tryd.func38 (by kernel_rfl) (by kernel_rfl) (K := fun e d w' => s28G1R (.pointer (some ⟨a, 0, none⟩)) (.int .i64 (m : Int)) (.pointer (some ⟨w.heap.size, 0, none⟩)) d w' e) ?_
  rw [hs3]
  generalize hE : enterW w3 28 _ _ _ _ = w5
  obtain ⟨L, hL, V5⟩ := enterW_lay' hE V3 (by rw [hs3]; rfl)
  have V5 : Locals w [.cells #[.int .i64 0] 3, .cells #[.pointer (some ⟨a, 0, none⟩)] 24, .cells #[.int .i64 (m : Int)] 3, .deferred (some []), .loop L] w5 := V5
  have h5 := h.bel V5.bel
  have tk : takenN lo hi U wish m = leastN lo hi U m := by unfold takenN; rw [if_neg hno]
  -- behind the loop
  have tail : ∀ {w6 : World} {L' : Loop} {f : Nat}, f = leastN lo hi U m → Locals w [.cells #[.int .i64 (f : Int)] 3, .cells #[.pointer (some ⟨a, 0, none⟩)] 24, .cells #[.int .i64 (m : Int)] 3, .deferred (some []), .loop L'] w6 →
      Brings (s28M0 (.pointer (some ⟨a, 0, none⟩)) (.int .i64 (m : Int)) (.pointer (some ⟨w.heap.size, 0, none⟩)) [{ target := .collected (w.heap.size + 3), args := #[] }] w6) (Took w a lo hi (takeN lo hi U wish m)) := by
    intro w6 L' f hf V
    have hfree : f = 0 ∨ freeN lo hi U f m = true := by
      rcases taken_or (lo := lo) (hi := hi) (wish := wish) (m := m) (U := U) h.1 (by omega) with e | e
      · left; rw [hf, ← tk, e]
      · right; rw [hf, ← tk]; exact e.2.1
    refine (m28 (n0 := w.heap.size + 3) (h.bel V.bel) hm (V.cell (j := 0) rfl) (by omega) hfree (.inr ⟨w.heap.size + 3, rfl, V.at_ 3 _ rfl, by omega⟩) (fun q hq => by
      injection hq with hq
      injection hq with hq
      injection hq with hq
      omega)).mono ?_
    rintro r ⟨t, ht, h1, h2, h3⟩
    have et : t = takeN lo hi U wish m := by
      unfold takeN
      rw [tk, ← hf, ht]
    rw [et] at h1 h3
    refine ⟨h1, (V.bel.thenChg h2).mono fun k hk hs => ?_, h3⟩
    rcases hs with hs | hs
    · exact hs
    · omega
  refine (k38 (S := fun k => k = w.heap.size ∨ k = w.heap.size + 4)
    (fun w' => Locals w [.cells #[.int .i64 (leastN lo hi U m : Int)] 3, .cells #[.pointer (some ⟨a, 0, none⟩)] 24, .cells #[.int .i64 (m : Int)] 3, .deferred (some []), .loop { L with state := .done, pending := some (.exit 0) }] w')
    h5 (V5.cell (j := 1) rfl) (V5.cell (j := 2) rfl) hm (fun hne => ?_)).mono ?_
  · rw [hL.yield1 (V5.at_ 4 _ rfl)]
    simp only [List.set_cons_succ, List.set_cons_zero]
    refine s28G1Qb ?_
    unfold s28G1Q
    rw [begK_ready (V5.at_ 4 _ rfl) hL.state]
    have V6 := V5.set (j := 4) (show _ < 5 by decide) rfl (.loop { L with state := .busy })
    have c6 : Chg (fun k => k = w.heap.size ∨ k = w.heap.size + 4) w5 (setB w5 (w.heap.size + 4) (.loop { L with state := .busy })) := (setB_chg _ _ _).mono fun k _ hk => .inr hk
    generalize setB w5 (w.heap.size + 4) _ = w6 at V6 c6
    have o6 : w6.heap[w.heap.size]? = some (.cells #[.int .i64 0] 3) := V6.at_ 0 _ rfl
    have V7 := V6.row (j := 0) (k := w.heap.size) rfl rfl #[.int .i64 (leastN lo hi U m : Int)]
    have c7 : Chg (fun k => k = w.heap.size ∨ k = w.heap.size + 4) w5 (w6.setRow w.heap.size #[.int .i64 (leastN lo hi U m : Int)]) := c6.trans ((setRow_chg _ _).mono fun k _ hk => .inl hk) fun _ _ s => s
    simp only [store3 o6, go_sem]
    rw [endR_eq (V7.at_ 4 _ rfl)]
    exact .ret ⟨c7.trans ((setB_chg _ _ _).mono fun k _ hk => .inr hk) fun _ _ s => s, rfl, V7.set (j := 4) (show _ < 5 by decide) rfl _⟩
  · rintro ⟨_, w9⟩ ⟨h1, ⟨hz, h2⟩ | ⟨hne, hV, _⟩⟩
    · simp only at h2
      subst h2
      refine ⟨L, .normal, V5.at_ 4 _ rfl, by rw [hL.state]; rfl, by rw [hL.pending]; rfl, ?_⟩
      have V6 := V5.set (j := 4) (show _ < 5 by decide) rfl (.loop { L with state := .exhausted })
      simp only [show w.heap.size + 3 + 1 = w.heap.size + 4 from rfl]
      exact tail (f := 0) hz.symm V6
    · refine ⟨_, .exit 0, hV.at_ 4 _ rfl, rfl, rfl, ?_⟩
      have V6 := hV.set (j := 4) (show _ < 5 by decide) rfl (.loop { L with state := .exhausted, pending := some (.exit 0) })
      simp only [show w.heap.size + 3 + 1 = w.heap.size + 4 from rfl]
      exact tail rfl V6

theorem k28 {w : World} {a lo hi m wish : Nat} {U : List Nat} (h : Pl w a lo hi U) (hw : wish < 65536) (hm : m = 1 ∨ m = 2) :
    Brings (Xcall Tryd.prog (Value.func (Fn.func 28) #[] #[]) #[.pointer (some ⟨a, 0, none⟩), .int .i64 (wish : Int), .int .i64 (m : Int)] w) (Took w a lo hi (takeN lo hi U wish m)) := by
  refine e28 ?_
  unfold s28
  have la := h.lt
  have V1 := (Locals.nil w).add rfl (.cells #[.int .i64 0] 3)
  have V2 := V1.row (j := 0) (k := w.heap.size) rfl rfl #[.int .i64 0]
  have o1 : (w.alloc (.cells #[.int .i64 0] 3)).heap[w.heap.size]? = some (.cells #[.int .i64 0] 3) := V1.at_ 0 _ rfl
  have hs2 : ((w.alloc (.cells #[.int .i64 0] 3)).setRow w.heap.size #[.int .i64 0]).heap.size = w.heap.size + 1 := by simp [World.setRow]
  have m0 : (m : Int) ≠ 0 := by omega
  have d1 : (wish : Int).tmod (m : Int) = ((wish % m : Nat) : Int) := by rw [Int.tmod_eq_emod_of_nonneg (by omega)]; rfl
  simp only [go_sem, Qb_eqlP (P := Tryd.prog) (t := 24) (e := 53) ptr24, Option.isNone_some, alloc3, store3 o1, Qb_remP m0, d1]
  generalize (w.alloc (.cells #[.int .i64 0] 3)).setRow w.heap.size #[.int .i64 0] = w2 at V2 hs2
  have V2 : Locals w [.cells #[.int .i64 0] 3] w2 := V2
  by_cases c1 : wish % m = 0
  · have e1 : (((wish % m : Nat) : Int) == 0) = true := by rw [c1]; rfl
    simp only [e1, go_sem]
    refine (k33 (h.bel V2.bel) (show wish < 65537 by omega) (by omega)).bind ?_
    rintro _ rfl
    cases c2 : freeN lo hi U wish m with
    | false =>
      simp only [go_sem]
      exact r28 h V2 hs2 hm (by unfold condN; rw [c2, Bool.and_false]; decide)
    | true =>
      have hc : condN lo hi U m wish = true := by unfold condN; rw [c2, decide_eq_true c1]; rfl
      have o2 : w2.heap[w.heap.size]? = some (.cells #[.int .i64 0] 3) := V2.at_ 0 _ rfl
      have V3 := V2.row (j := 0) (k := w.heap.size) rfl rfl #[.int .i64 (wish : Int)]
      simp only [store3 o2, go_sem]
      refine (m28 (n0 := w.heap.size) (h.bel V3.bel) hm (V3.cell (j := 0) rfl) (by omega) (.inr c2) (.inl rfl) (fun q hq => by cases hq)).mono ?_
      rintro r ⟨t, ht, h1, h2, h3⟩
      have et : t = takeN lo hi U wish m := by
        unfold takeN takenN
        rw [if_pos hc, ht]
      rw [et] at h1 h3
      refine ⟨h1, (V3.bel.thenChg h2).mono fun k hk hs => ?_, h3⟩
      rcases hs with hs | hs
      · exact hs
      · omega
  · have e1 : (((wish % m : Nat) : Int) == 0) = false := by
      rw [beq_eq_false_iff_ne]; omega
    simp only [e1, go_sem]
    exact r28 h V2 hs2 hm (by unfold condN; rw [decide_eq_false c1, Bool.false_and]; decide)

/-- Taken: one; a pair. -/
theorem k15 {w : World} {a lo hi n : Nat} {U : List Nat} (h : Pl w a lo hi U) (hn : n < 65536) : Brings (Xcall Tryd.prog (Value.func (Fn.func 15) #[] #[]) #[.pointer (some ⟨a, 0, none⟩), .int .u16 (n : Int)] w) (Took w a lo hi (takeN lo hi U n 1)) := by
  refine e15 ?_
  unfold s15
  have cv : Qconv Tryd.prog 22 3 (.int .u16 (n : Int)) = some (.int .i64 (n : Int)) := by rw [Qconv_int (k := .i64) (by kernel_rfl), wrap_i64 (by omega) (by omega)]
  simp only [cv, go_sem]
  refine (k28 (m := 1) h hn (.inl rfl)).bind ?_
  rintro ⟨_, w2⟩ ⟨e1, c, p⟩
  simp only at e1 c p
  subst e1
  simp only [go_sem]
  exact .ret ⟨rfl, c, p⟩
theorem k19 {w : World} {a lo hi n : Nat} {U : List Nat} (h : Pl w a lo hi U) (hn : n < 65536) : Brings (Xcall Tryd.prog (Value.func (Fn.func 19) #[] #[]) #[.pointer (some ⟨a, 0, none⟩), .int .u16 (n : Int)] w) (Took w a lo hi (takeN lo hi U n 2)) := by
  refine e19 ?_
  unfold s19
  have cv : Qconv Tryd.prog 22 3 (.int .u16 (n : Int)) = some (.int .i64 (n : Int)) := by rw [Qconv_int (k := .i64) (by kernel_rfl), wrap_i64 (by omega) (by omega)]
  simp only [cv, go_sem]
  refine (k28 (m := 2) h hn (.inr rfl)).bind ?_
  rintro ⟨_, w2⟩ ⟨e1, c, p⟩
  simp only at e1 c p
  subst e1
  simp only [go_sem]
  exact .ret ⟨rfl, c, p⟩

end Go.Proofs.YtebhknagnkcldaaDoor
