/- The functions of the program, by their texts. -/
import Derived.Test.YtnnhfnjdcomjmaaFa
import Derived.Test.YtnnhfnjdcomjmaaProg
import Derived.KernelRfl
namespace Go.Proofs.Ytnnhfnjdcomjmaa
open Go Go.Ev
open Go.Proofs
theorem follows_all : Try.prog.follows .mixedOrders = true := by kernel_rfl
/-! lychgate/lychgatelaw12.ExpectRight -/
noncomputable def s3 (x0 : Value) (w : World) : Option (Value × World) :=
  (Xbox Try.prog 25 x0 w).bind fun r1 =>
  (Xcall Try.prog (Value.func (Fn.func 12) #[] #[]) #[] r1.2).bind fun r2 =>
  (Qload Try.prog 25 r1.1 r2.2).bind fun v3 =>
  (Xcall Try.prog (Value.func (Fn.func 13) #[] #[]) #[r2.1, v3] r2.2).bind fun r4 =>
  (Qload Try.prog 25 r1.1 r4.2).bind fun v5 =>
  (Xcall Try.prog (Value.func (Fn.func 13) #[] #[]) #[r2.1, v5] r4.2).bind fun r6 =>
  (Qload Try.prog 25 r1.1 r6.2).bind fun v7 =>
  (Xcall Try.prog (Value.func (Fn.func 14) #[] #[]) #[v7] r6.2).bind fun r8 =>
  (Qun Go.UnOp.not r8.1).bind fun v9 =>
  condK v9 (
    (Xcall Try.prog (Value.func (Fn.func 15) #[] #[]) #[] r8.2).bind fun r10 =>
    (guardQ r10.1 true (Qload Try.prog 25 r1.1 r10.2)).bind fun v11 =>
    (guardX r10.1 true r10.2 (Xcall Try.prog (Value.func (Fn.func 16) #[] #[]) #[v11] r10.2)).bind fun r12 =>
    (guardQ r10.1 true (Qun Go.UnOp.not r12.1)).bind fun v13 =>
    (Qpick r10.1 v13 (Go.Value.bool false)).bind fun v14 =>
    (guardQ v14 true (Qbin Try.prog Go.BinOp.eql 28 (gv (isB v14 true) r4.1) (Go.Value.int Go.IntKind.i64 2))).bind fun v15 =>
    (Qpick v14 v15 (Go.Value.bool false)).bind fun v16 =>
    (guardQ v16 true (Qbin Try.prog Go.BinOp.eql 28 (gv (isB v16 true) r6.1) (Go.Value.int Go.IntKind.i64 2))).bind fun v17 =>
    (Qpick v16 v17 (Go.Value.bool false)).bind fun v18 =>
    (guardX v18 true r12.2 (Xcall Try.prog (Value.func (Fn.func 17) #[] #[]) #[(gv (isB v18 true) r2.1)] r12.2)).bind fun r19 =>
    (guardQ v18 true (Qlen Try.prog #[32] 3 #[r19.1] r19.2)).bind fun v20 =>
    (guardQ v18 true (Qbin Try.prog Go.BinOp.eql 3 v20 (Go.Value.int Go.IntKind.i64 0))).bind fun v21 =>
    (Qpick v18 v21 (Go.Value.bool false)).bind fun v22 =>
    some (v22, r19.2)
  ) (
    (Xcall Try.prog (Value.func (Fn.func 15) #[] #[]) #[] r8.2.drew).bind fun r23 =>
    (guardQ r23.1 true (Qload Try.prog 25 r1.1 r23.2)).bind fun v24 =>
    (guardX r23.1 true r23.2 (Xcall Try.prog (Value.func (Fn.func 16) #[] #[]) #[v24] r23.2)).bind fun r25 =>
    (Qpick r23.1 r25.1 (Go.Value.bool false)).bind fun v26 =>
    (guardQ v26 true (Qbin Try.prog Go.BinOp.eql 28 (gv (isB v26 true) r4.1) (Go.Value.int Go.IntKind.i64 0))).bind fun v27 =>
    (Qpick v26 v27 (Go.Value.bool false)).bind fun v28 =>
    (guardQ v28 true (Qbin Try.prog Go.BinOp.eql 28 (gv (isB v28 true) r6.1) (Go.Value.int Go.IntKind.i64 10))).bind fun v29 =>
    (Qpick v28 v29 (Go.Value.bool false)).bind fun v30 =>
    (guardX v30 true r25.2 (Xcall Try.prog (Value.func (Fn.func 17) #[] #[]) #[(gv (isB v30 true) r2.1)] r25.2)).bind fun r31 =>
    (guardQ v30 true (Qlen Try.prog #[32] 3 #[r31.1] r31.2)).bind fun v32 =>
    (guardQ v30 true (Qbin Try.prog Go.BinOp.eql 3 v32 (Go.Value.int Go.IntKind.i64 1))).bind fun v33 =>
    (Qpick v30 v33 (Go.Value.bool false)).bind fun v34 =>
    (guardX v34 true r31.2 (Xcall Try.prog (Value.func (Fn.func 17) #[] #[]) #[(gv (isB v34 true) r2.1)] r31.2)).bind fun r35 =>
    (guardQ v34 true (QindexAddr Try.prog 32 r35.1 (Go.Value.int Go.IntKind.i64 0) r35.2)).bind fun v36 =>
    (guardQ v34 true (Qload Try.prog 25 v36 r35.2)).bind fun v37 =>
    (guardQ v34 true (Qload Try.prog 25 r1.1 r35.2)).bind fun v38 =>
    (guardQ v34 true (Qbin Try.prog Go.BinOp.eql 25 v37 v38)).bind fun v39 =>
    (Qpick v34 v39 (Go.Value.bool false)).bind fun v40 =>
    chkK ((guardQ v34 true (Qload Try.prog 25 r1.1 r31.2) = some v38 ∧ guardQ v34 true (Qload Try.prog 25 r1.1 r35.2) = some v38) ∧ True) (
      some (v40, r35.2)
    )
  )
theorem s3eq (x0 : Value) (w : World) : evK Try.prog 3 none (bodyOf Try.f3) none _ { tmps := (([x0] : List Value) ++ List.replicate (63 - 1) undef).toArray, defers := [] } w (leaveK Try.prog Try.f3) = s3 x0 w := by kernel_rfl
theorem c3 {x0 : Value} {w : World} {r : Value × World} (h : s3 x0 w = some r) : C Try.prog 3 #[x0] w = some r :=
  C_ev follows_all drawLaw (by kernel_rfl) Try.func3 (by rfl) ((s3eq x0 w).trans h)
theorem e3 {x0 : Value} {w : World} {Q : Value × World → Prop} (h : Brings (s3 x0 w) Q) : Brings (Xcall Try.prog (Value.func (Fn.func 3) #[] #[]) #[x0] w) Q :=
  h.call (Xcall_fn Try.func3 (by decide +kernel) (by rfl) _ _ _ w) fun _ h => c3 h

/-! lychgate/lychgatelaw12.ExpectMost -/
noncomputable def s4K0 : Exit → Act → World → Option (Value × World) := seqK (fun a w => evK Try.prog 4 none (nav [1, 1, 1, 1, 1, 1] (bodyOf Try.f4)) none _ a w (leaveK Try.prog Try.f4)) (leaveK Try.prog Try.f4)
noncomputable def s4K1 : Exit → Act → World → Option (Value × World) := blockK 0 s4K0
noncomputable def s4L0 (s : List Value) (d : List Deferred) (w : World) : Option (Value × World) := loopN Try.prog 4 none (nav [1, 1, 1, 1, 1, 0, 1, 0, 0] (bodyOf Try.f4)) s4K1 s d w
noncomputable def s4B0 : List Value → World → Option (Exit × List Value × World)
  | [x4, x5, x6, x7, x8, x9], w =>
    (Qbin Try.prog Go.BinOp.lss 3 x9 x6).bind fun v47 =>
    condK v47 (
      (Qbin Try.prog Go.BinOp.add 3 x9 (Go.Value.int Go.IntKind.i64 1)).bind fun v48 =>
      (Qconv Try.prog 3 23 v48).bind fun v49 =>
      (Qbin Try.prog Go.BinOp.rem 3 x9 x7).bind fun v50 =>
      (Qbuild Try.prog 25 #[(0, (Go.Value.int Go.IntKind.u8 6)), (2, (Go.Value.int Go.IntKind.u32 1)), (4, v49), (5, (Go.Value.int Go.IntKind.u32 2)), (6, (Go.Value.int Go.IntKind.u16 3)), (7, v50), (8, (Go.Value.int Go.IntKind.i64 9))] w).bind fun v51 =>
      (Xcall Try.prog (Value.func (Fn.func 13) #[] #[]) #[x5, v51] w).bind fun r52 =>
      (Qbin Try.prog Go.BinOp.geq 3 x8 (Go.Value.int Go.IntKind.i64 32)).bind fun v53 =>
      (guardQ v53 false (Qbin Try.prog Go.BinOp.quo 3 (gv (isB v53 false) x9) (gv (isB v53 false) x7))).bind fun v54 =>
      (guardQ v53 false (Qbin Try.prog Go.BinOp.geq 3 v54 (Go.Value.int Go.IntKind.i64 4))).bind fun v55 =>
      (Qpick v53 (Go.Value.bool true) v55).bind fun v56 =>
      (Qbin Try.prog Go.BinOp.eql 28 r52.1 (Go.Value.int Go.IntKind.i64 9)).bind fun v57 =>
      (Qbin Try.prog Go.BinOp.neq 4 v56 v57).bind fun v58 =>
      (guardQ v58 false (Qun Go.UnOp.not (gv (isB v58 false) v56))).bind fun v59 =>
      (guardQ (gv (isB v58 false) v59) true (Qbin Try.prog Go.BinOp.neq 28 (gv (isB (gv (isB v58 false) v59) true) r52.1) (Go.Value.int Go.IntKind.i64 0))).bind fun v60 =>
      (guardQ v58 false (Qpick (gv (isB v58 false) v59) v60 (Go.Value.bool false))).bind fun v61 =>
      (Qpick v58 (Go.Value.bool true) v61).bind fun v62 =>
      condK v62 (
        some (Exit.ret, [(Go.Value.bool false), x5, x6, x7, x8, x9], r52.2)
      ) (
        (Qun Go.UnOp.not v56).bind fun v63 =>
        condK v63 (
          (Qbin Try.prog Go.BinOp.add 3 x8 (Go.Value.int Go.IntKind.i64 1)).bind fun v64 =>
          (Qbin Try.prog Go.BinOp.add 3 x9 (Go.Value.int Go.IntKind.i64 1)).bind fun v65 =>
          some (Exit.normal, [x4, x5, x6, x7, v64, v65], r52.2)
        ) (
          (Qbin Try.prog Go.BinOp.add 3 x9 (Go.Value.int Go.IntKind.i64 1)).bind fun v66 =>
          some (Exit.normal, [x4, x5, x6, x7, x8, v66], r52.2)
        )
      )
    ) (
      some ((Exit.exit 0), [x4, x5, x6, x7, x8, x9], w)
    )
  | _, _ => none
noncomputable def s4R0 : Exit → List Value → World → Option (Value × World)
  | (Exit.exit 0), [_, x5, _, _, x8, _], w =>
    (Xcall Try.prog (Value.func (Fn.func 15) #[] #[]) #[] w).bind fun r67 =>
    (guardX r67.1 true r67.2 (Xcall Try.prog (Value.func (Fn.func 17) #[] #[]) #[(gv (isB r67.1 true) x5)] r67.2)).bind fun r68 =>
    (guardQ r67.1 true (Qlen Try.prog #[32] 3 #[r68.1] r68.2)).bind fun v69 =>
    (guardQ r67.1 true (Qbin Try.prog Go.BinOp.eql 3 v69 (gv (isB r67.1 true) x8))).bind fun v70 =>
    (Qpick r67.1 v70 (Go.Value.bool false)).bind fun v71 =>
    some (v71, r68.2)
  | Exit.ret, [x4, _, _, _, _, _], w =>
    some (x4, w)
  | _, _, _ => none
noncomputable def s4raw (x0 x1 : Value) (w : World) : Option (Value × World) :=
  (Xcall Try.prog (Value.func (Fn.func 12) #[] #[]) #[] w).bind fun r41 =>
  (Qconv Try.prog 5 3 x0).bind fun v42 =>
  (Qbin Try.prog Go.BinOp.rem 3 v42 (Go.Value.int Go.IntKind.i64 60)).bind fun v43 =>
  (Qconv Try.prog 5 3 x1).bind fun v44 =>
  (Qbin Try.prog Go.BinOp.rem 3 v44 (Go.Value.int Go.IntKind.i64 20)).bind fun v45 =>
  (Qbin Try.prog Go.BinOp.add 3 v45 (Go.Value.int Go.IntKind.i64 1)).bind fun v46 =>
  s4L0 [x0, x1, undef, undef, (Go.Value.bool false), r41.1, v43, v46, (Go.Value.int Go.IntKind.i64 0), (Go.Value.int Go.IntKind.i64 0), undef, undef, r41.1, x0, v42, v43, x1, v44, v45, v46, undef, undef, undef, undef, undef, undef, undef, undef, undef, undef, undef, undef, undef, undef, undef, undef, undef, undef, undef, undef, undef, undef, undef, undef, undef, undef, undef, undef, undef, undef, undef, undef, undef, undef, undef, undef, undef, undef, undef, undef, undef, undef, undef, undef, undef, undef] [] r41.2
noncomputable def s4 (x0 x1 : Value) (w : World) : Option (Value × World) :=
  (Xcall Try.prog (Value.func (Fn.func 12) #[] #[]) #[] w).bind fun r41 =>
  (Qconv Try.prog 5 3 x0).bind fun v42 =>
  (Qbin Try.prog Go.BinOp.rem 3 v42 (Go.Value.int Go.IntKind.i64 60)).bind fun v43 =>
  (Qconv Try.prog 5 3 x1).bind fun v44 =>
  (Qbin Try.prog Go.BinOp.rem 3 v44 (Go.Value.int Go.IntKind.i64 20)).bind fun v45 =>
  (Qbin Try.prog Go.BinOp.add 3 v45 (Go.Value.int Go.IntKind.i64 1)).bind fun v46 =>
  loopR s4B0 s4R0 [(Go.Value.bool false), r41.1, v43, v46, (Go.Value.int Go.IntKind.i64 0), (Go.Value.int Go.IntKind.i64 0)] r41.2
theorem s4B0eq (x4 x5 x6 x7 x8 x9 : Value) (w : World) (g : Nat → Value) (d : List Deferred) : evK Try.prog 4 none (nav [1, 1, 1, 1, 1, 0, 1, 0, 0] (bodyOf Try.f4)) none _ (frm 66 (setL [4, 5, 6, 7, 8, 9] [x4, x5, x6, x7, x8, x9] g) d) w (projK [4, 5, 6, 7, 8, 9]) = s4B0 [x4, x5, x6, x7, x8, x9] w := by kernel_rfl
theorem s4R0x0eq (x4 x5 x6 x7 x8 x9 : Value) (g : Nat → Value) (w : World) : s4K1 (Exit.exit 0) (frm 66 (setL [4, 5, 6, 7, 8, 9] [x4, x5, x6, x7, x8, x9] g) []) w = s4R0 (Exit.exit 0) [x4, x5, x6, x7, x8, x9] w := by kernel_rfl
theorem s4R0ret_eq (x4 x5 x6 x7 x8 x9 : Value) (g : Nat → Value) (w : World) : s4K1 Exit.ret (frm 66 (setL [4, 5, 6, 7, 8, 9] [x4, x5, x6, x7, x8, x9] g) []) w = s4R0 Exit.ret [x4, x5, x6, x7, x8, x9] w := by kernel_rfl
theorem s4R0of : ∀ (e : Exit) (xs : List Value) (w : World) (g : Nat → Value) (y : _), s4R0 e xs w = some y → s4K1 e (frm 66 (setL [4, 5, 6, 7, 8, 9] xs g) []) w = some y := by
  intro e xs w g y h
  unfold s4R0 at h
  split at h
  · exact (s4R0x0eq _ _ _ _ _ _ g _).trans h
  · exact (s4R0ret_eq _ _ _ _ _ _ g _).trans h
  · cases h
theorem s4L0of {s0 s1 s2 s3 s4 s5 s6 s7 s8 s9 s10 s11 s12 s13 s14 s15 s16 s17 s18 s19 s20 s21 s22 s23 s24 s25 s26 s27 s28 s29 s30 s31 s32 s33 s34 s35 s36 s37 s38 s39 s40 s41 s42 s43 s44 s45 s46 s47 s48 s49 s50 s51 s52 s53 s54 s55 s56 s57 s58 s59 s60 s61 s62 s63 s64 s65 : Value} {w : World} {r : _} (h : loopR s4B0 s4R0 [s4, s5, s6, s7, s8, s9] w = some r) : s4L0 [s0, s1, s2, s3, s4, s5, s6, s7, s8, s9, s10, s11, s12, s13, s14, s15, s16, s17, s18, s19, s20, s21, s22, s23, s24, s25, s26, s27, s28, s29, s30, s31, s32, s33, s34, s35, s36, s37, s38, s39, s40, s41, s42, s43, s44, s45, s46, s47, s48, s49, s50, s51, s52, s53, s54, s55, s56, s57, s58, s59, s60, s61, s62, s63, s64, s65] [] w = some r :=
  loopN_of (B := s4B0) (R := s4R0) (n := 66) (live := [4, 5, 6, 7, 8, 9]) (fun xs w g y hl h => match xs, hl, h with | [x4, x5, x6, x7, x8, x9], _, h => (s4B0eq x4 x5 x6 x7 x8 x9 w g []).trans h) (by kernel_rfl) (s4R0of) (fun i => ([s0, s1, s2, s3, s4, s5, s6, s7, s8, s9, s10, s11, s12, s13, s14, s15, s16, s17, s18, s19, s20, s21, s22, s23, s24, s25, s26, s27, s28, s29, s30, s31, s32, s33, s34, s35, s36, s37, s38, s39, s40, s41, s42, s43, s44, s45, s46, s47, s48, s49, s50, s51, s52, s53, s54, s55, s56, s57, s58, s59, s60, s61, s62, s63, s64, s65] : List Value).getD i undef) (by kernel_rfl) rfl h
theorem s4eq (x0 x1 : Value) (w : World) : evK Try.prog 4 none (bodyOf Try.f4) none _ { tmps := (([x0, x1] : List Value) ++ List.replicate (66 - 2) undef).toArray, defers := [] } w (leaveK Try.prog Try.f4) = s4raw x0 x1 w := by kernel_rfl
theorem c4 {x0 x1 : Value} {w : World} {r : Value × World} (h : s4 x0 x1 w = some r) : C Try.prog 4 #[x0, x1] w = some r :=
  C_ev follows_all drawLaw (by kernel_rfl) Try.func4 (by rfl) ((s4eq x0 x1 w).trans (show s4raw x0 x1 w = some r from (Ev.bind_mono fun (r41 : Value × World) => (Ev.bind_mono fun (v42 : Value) => (Ev.bind_mono fun (v43 : Value) => (Ev.bind_mono fun (v44 : Value) => (Ev.bind_mono fun (v45 : Value) => (Ev.bind_mono fun (v46 : Value) => (s4L0of))))))) h))
theorem e4 {x0 x1 : Value} {w : World} {Q : Value × World → Prop} (h : Brings (s4 x0 x1 w) Q) : Brings (Xcall Try.prog (Value.func (Fn.func 4) #[] #[]) #[x0, x1] w) Q :=
  h.call (Xcall_fn Try.func4 (by decide +kernel) (by rfl) _ _ _ w) fun _ h => c4 h

/-! lychgate/lychgatelaw12.ExpectPlays -/
noncomputable def s5 (x0 x1 : Value) (w : World) : Option (Value × World) :=
  (Xbox Try.prog 39 x1 w).bind fun r72 =>
  (Xcall Try.prog (Value.func (Fn.func 18) #[] #[]) #[x0] r72.2).bind fun r73 =>
  (Qext r73.1 0).bind fun v74 =>
  (Qext r73.1 1).bind fun v75 =>
  (Qext r73.1 2).bind fun v76 =>
  (Xcall Try.prog (Value.func (Fn.func 15) #[] #[]) #[] r73.2).bind fun r77 =>
  (Qpick r77.1 (gv (isB r77.1 true) v76) (Go.Value.bool false)).bind fun v78 =>
  (guardQ v78 true (QfieldAddr Try.prog 39 r72.1 2)).bind fun v79 =>
  (guardQ v78 true (Qload Try.prog 37 v79 r77.2)).bind fun v80 =>
  (guardQ v78 true (QfieldAddr Try.prog 39 r72.1 3)).bind fun v81 =>
  (guardQ v78 true (Qload Try.prog 3 v81 r77.2)).bind fun v82 =>
  (guardX v78 true r77.2 (Xcall Try.prog (Value.func (Fn.func 19) #[] #[]) #[(gv (isB v78 true) v74), (gv (isB v78 true) v75), v80, v82] r77.2)).bind fun r83 =>
  (Qpick v78 r83.1 (Go.Value.bool false)).bind fun v84 =>
  some (v84, r83.2)
theorem s5eq (x0 x1 : Value) (w : World) : evK Try.prog 5 none (bodyOf Try.f5) none _ { tmps := (([x0, x1] : List Value) ++ List.replicate (27 - 2) undef).toArray, defers := [] } w (leaveK Try.prog Try.f5) = s5 x0 x1 w := by kernel_rfl
theorem c5 {x0 x1 : Value} {w : World} {r : Value × World} (h : s5 x0 x1 w = some r) : C Try.prog 5 #[x0, x1] w = some r :=
  C_ev follows_all drawLaw (by kernel_rfl) Try.func5 (by rfl) ((s5eq x0 x1 w).trans h)
theorem e5 {x0 x1 : Value} {w : World} {Q : Value × World → Prop} (h : Brings (s5 x0 x1 w) Q) : Brings (Xcall Try.prog (Value.func (Fn.func 5) #[] #[]) #[x0, x1] w) Q :=
  h.call (Xcall_fn Try.func5 (by decide +kernel) (by rfl) _ _ _ w) fun _ h => c5 h

/-! lychgate/lychgatelaw12.ExpectOnce -/
noncomputable def s6K0 : Exit → Act → World → Option (Value × World) := seqK (fun a w => evK Try.prog 6 none (nav [1, 1, 1, 1, 1, 1, 1, 1, 1] (bodyOf Try.f6)) none _ a w (leaveK Try.prog Try.f6)) (leaveK Try.prog Try.f6)
noncomputable def s6K1 : Exit → Act → World → Option (Value × World) := blockK 0 s6K0
noncomputable def s6L0 (s : List Value) (d : List Deferred) (w : World) : Option (Value × World) := loopN Try.prog 6 none (nav [1, 1, 1, 1, 1, 1, 1, 1, 0, 1, 0, 0] (bodyOf Try.f6)) s6K1 s d w
noncomputable def s6B0 : List Value → World → Option (Exit × List Value × World)
  | [x3, x4, x8, x11, x13, x14], w =>
    (Qlen Try.prog #[32] 3 #[x13] w).bind fun v131 =>
    (Qbin Try.prog Go.BinOp.lss 3 x14 v131).bind fun v132 =>
    condK v132 (
      (QindexAddr Try.prog 32 x13 x14 w.drew).bind fun v133 =>
      (Qload Try.prog 25 v133 w.drew).bind fun v134 =>
      (Qload Try.prog 25 x11 w.drew).bind fun v135 =>
      (Qbin Try.prog Go.BinOp.eql 25 v134 v135).bind fun v136 =>
      chkK True (
        condK v136 (
          some (Exit.ret, [x3, (Go.Value.bool false), x8, x11, x13, x14], w.drew)
        ) (
          (Qbin Try.prog Go.BinOp.add 3 x14 (Go.Value.int Go.IntKind.i64 1)).bind fun v137 =>
          some (Exit.normal, [x3, x4, x8, x11, x13, v137], w.drew)
        )
      )
    ) (
      some ((Exit.exit 0), [x3, x4, x8, x11, x13, x14], w)
    )
  | _, _ => none
noncomputable def s6R0 : Exit → List Value → World → Option (Value × World)
  | (Exit.exit 0), [x3, _, x8, x11, x13, _], w =>
    (Qlen Try.prog #[32] 3 #[x13] w).bind fun v138 =>
    (Qbin Try.prog Go.BinOp.sub 3 x8 (Go.Value.int Go.IntKind.i64 1)).bind fun v139 =>
    (Qbin Try.prog Go.BinOp.eql 3 v138 v139).bind fun v140 =>
    (guardQ v140 true (QfieldAddr Try.prog 25 x11 0)).bind fun v141 =>
    (guardQ v140 true (Qload Try.prog 5 v141 w)).bind fun v142 =>
    (guardQ v140 true (QfieldAddr Try.prog 39 x3 2)).bind fun v143 =>
    (guardQ v140 true (QfieldAddr Try.prog 37 v143 0)).bind fun v144 =>
    (guardQ v140 true (Qload Try.prog 5 v144 w)).bind fun v145 =>
    (guardQ v140 true (Qbin Try.prog Go.BinOp.eql 5 v142 v145)).bind fun v146 =>
    (Qpick v140 v146 (Go.Value.bool false)).bind fun v147 =>
    (guardQ v147 true (QfieldAddr Try.prog 25 x11 2)).bind fun v148 =>
    (guardQ v147 true (Qload Try.prog 22 v148 w)).bind fun v149 =>
    (guardQ v147 true (QfieldAddr Try.prog 39 x3 2)).bind fun v150 =>
    (guardQ v147 true (QfieldAddr Try.prog 37 v150 2)).bind fun v151 =>
    (guardQ v147 true (Qload Try.prog 22 v151 w)).bind fun v152 =>
    (guardQ v147 true (Qbin Try.prog Go.BinOp.eql 22 v149 v152)).bind fun v153 =>
    (Qpick v147 v153 (Go.Value.bool false)).bind fun v154 =>
    (guardQ v154 true (QfieldAddr Try.prog 25 x11 4)).bind fun v155 =>
    (guardQ v154 true (Qload Try.prog 23 v155 w)).bind fun v156 =>
    (guardQ v154 true (QfieldAddr Try.prog 39 x3 2)).bind fun v157 =>
    (guardQ v154 true (QfieldAddr Try.prog 37 v157 4)).bind fun v158 =>
    (guardQ v154 true (Qload Try.prog 23 v158 w)).bind fun v159 =>
    (guardQ v154 true (Qbin Try.prog Go.BinOp.eql 23 v156 v159)).bind fun v160 =>
    (Qpick v154 v160 (Go.Value.bool false)).bind fun v161 =>
    (guardQ v161 true (QfieldAddr Try.prog 25 x11 1)).bind fun v162 =>
    (guardQ v161 true (Qload Try.prog 22 v162 w)).bind fun v163 =>
    (guardQ v161 true (Qbin Try.prog Go.BinOp.eql 22 v163 (Go.Value.int Go.IntKind.u32 0))).bind fun v164 =>
    (guardQ (gv (isB v161 true) v164) false (QfieldAddr Try.prog 25 x11 1)).bind fun v165 =>
    (guardQ (gv (isB v161 true) v164) false (Qload Try.prog 22 v165 w)).bind fun v166 =>
    (guardQ (gv (isB v161 true) v164) false (QfieldAddr Try.prog 39 x3 2)).bind fun v167 =>
    (guardQ (gv (isB v161 true) v164) false (QfieldAddr Try.prog 37 v167 1)).bind fun v168 =>
    (guardQ (gv (isB v161 true) v164) false (Qload Try.prog 22 v168 w)).bind fun v169 =>
    (guardQ (gv (isB v161 true) v164) false (Qbin Try.prog Go.BinOp.eql 22 v166 v169)).bind fun v170 =>
    (guardQ v161 true (Qpick (gv (isB v161 true) v164) (Go.Value.bool true) v170)).bind fun v171 =>
    (Qpick v161 v171 (Go.Value.bool false)).bind fun v172 =>
    (guardQ v172 true (QfieldAddr Try.prog 25 x11 8)).bind fun v173 =>
    (guardQ v172 true (Qload Try.prog 3 v173 w)).bind fun v174 =>
    (guardQ v172 true (QfieldAddr Try.prog 39 x3 3)).bind fun v175 =>
    (guardQ v172 true (Qload Try.prog 3 v175 w)).bind fun v176 =>
    (guardQ v172 true (Qbin Try.prog Go.BinOp.gtr 3 v174 v176)).bind fun v177 =>
    (Qpick v172 v177 (Go.Value.bool false)).bind fun v178 =>
    some (v178, w)
  | Exit.ret, [_, x4, _, _, _, _], w =>
    some (x4, w)
  | _, _, _ => none
noncomputable def s6raw (x0 x1 : Value) (w : World) : Option (Value × World) :=
  (Xbox Try.prog 39 x1 w).bind fun r85 =>
  (Xcall Try.prog (Value.func (Fn.func 18) #[] #[]) #[x0] r85.2).bind fun r86 =>
  (Qext r86.1 0).bind fun v87 =>
  (Qext r86.1 1).bind fun v88 =>
  (Qext r86.1 2).bind fun v89 =>
  (Xcall Try.prog (Value.func (Fn.func 15) #[] #[]) #[] r86.2).bind fun r90 =>
  (Qun Go.UnOp.not r90.1).bind fun v91 =>
  (guardQ v91 false (Qun Go.UnOp.not (gv (isB v91 false) v89))).bind fun v92 =>
  (Qpick v91 (Go.Value.bool true) v92).bind fun v93 =>
  condK v93 (
    some ((Go.Value.bool false), r90.2)
  ) (
    (Xcall Try.prog (Value.func (Fn.func 17) #[] #[]) #[v87] r90.2).bind fun r94 =>
    (Qlen Try.prog #[32] 3 #[r94.1] r94.2).bind fun v95 =>
    (QfieldAddr Try.prog 39 r85.1 2).bind fun v96 =>
    (Qload Try.prog 37 v96 r94.2).bind fun v97 =>
    (QfieldAddr Try.prog 39 r85.1 3).bind fun v98 =>
    (Qload Try.prog 3 v98 r94.2).bind fun v99 =>
    (Xcall Try.prog (Value.func (Fn.func 20) #[] #[]) #[v87, v97, v99] r94.2).bind fun r100 =>
    (Qext r100.1 0).bind fun v101 =>
    (Qext r100.1 1).bind fun v102 =>
    (Xalloc Try.prog 25 r100.2).bind fun r103 =>
    (Xstore Try.prog 25 r103.1 v101 r103.2).bind fun r104 =>
    (QfieldAddr Try.prog 39 r85.1 2).bind fun v105 =>
    (Qload Try.prog 37 v105 r104.2).bind fun v106 =>
    (QfieldAddr Try.prog 39 r85.1 3).bind fun v107 =>
    (Qload Try.prog 3 v107 r104.2).bind fun v108 =>
    (Xcall Try.prog (Value.func (Fn.func 21) #[] #[]) #[v87, v106, v108] r104.2).bind fun r109 =>
    (Qext r109.1 0).bind fun v110 =>
    (Qext r109.1 1).bind fun v111 =>
    (Xalloc Try.prog 25 r109.2).bind fun r112 =>
    (Xstore Try.prog 25 r112.1 v110 r112.2).bind fun r113 =>
    (Qbin Try.prog Go.BinOp.neq 4 v102 v111).bind fun v114 =>
    (guardQ v114 false (Qload Try.prog 25 r103.1 r113.2)).bind fun v115 =>
    (guardQ v114 false (Qload Try.prog 25 r112.1 r113.2)).bind fun v116 =>
    (guardQ v114 false (Qbin Try.prog Go.BinOp.neq 25 v115 v116)).bind fun v117 =>
    (Qpick v114 (Go.Value.bool true) v117).bind fun v118 =>
    (guardQ v118 false (Qun Go.UnOp.not (gv (isB v118 false) v111))).bind fun v119 =>
    (Qpick v118 (Go.Value.bool true) v119).bind fun v120 =>
    condK v120 (
      (Qbin Try.prog Go.BinOp.eql 4 v102 v111).bind fun v121 =>
      (guardQ v121 true (Qload Try.prog 25 r103.1 r113.2)).bind fun v122 =>
      (guardQ v121 true (Qload Try.prog 25 r112.1 r113.2)).bind fun v123 =>
      (guardQ v121 true (Qbin Try.prog Go.BinOp.eql 25 v122 v123)).bind fun v124 =>
      (Qpick v121 v124 (Go.Value.bool false)).bind fun v125 =>
      (guardX v125 true r113.2 (Xcall Try.prog (Value.func (Fn.func 17) #[] #[]) #[(gv (isB v125 true) v87)] r113.2)).bind fun r126 =>
      (guardQ v125 true (Qlen Try.prog #[32] 3 #[r126.1] r126.2)).bind fun v127 =>
      (guardQ v125 true (Qbin Try.prog Go.BinOp.eql 3 v127 (gv (isB v125 true) v95))).bind fun v128 =>
      (Qpick v125 v128 (Go.Value.bool false)).bind fun v129 =>
      some (v129, r126.2)
    ) (
      (Xcall Try.prog (Value.func (Fn.func 17) #[] #[]) #[v87] r113.2).bind fun r130 =>
      s6L0 [x0, x1, undef, r85.1, (Go.Value.bool false), v87, v88, v89, v95, r103.1, v102, r112.1, v111, r130.1, (Go.Value.int Go.IntKind.i64 0), r86.1, x0, r86.1, v87, v88, v89, r90.1, v91, v91, (gv (isB v91 false) v89), v92, v93, v87, r94.1, v95, r100.1, v87, v96, v97, v98, v99, r100.1, v101, v102, r109.1, v87, v105, v106, v107, v108, r109.1, v110, v111, v102, v111, v114, v114, v115, v116, v117, v118, v118, (gv (isB v118 false) v111), v119, v120, undef, undef, undef, undef, undef, undef, undef, undef, undef, undef, undef, undef, undef, undef, undef, v87, r130.1, undef, undef, undef, undef, undef, undef, undef, undef, undef, undef, undef, undef, undef, undef, undef, undef, undef, undef, undef, undef, undef, undef, undef, undef, undef, undef, undef, undef, undef, undef, undef, undef, undef, undef, undef, undef, undef, undef, undef, undef, undef, undef, undef, undef, undef, undef, undef, undef, undef, undef, undef, undef, undef, undef, undef, undef, undef, undef, undef, undef, undef] [] r130.2
    )
  )
noncomputable def s6 (x0 x1 : Value) (w : World) : Option (Value × World) :=
  (Xbox Try.prog 39 x1 w).bind fun r85 =>
  (Xcall Try.prog (Value.func (Fn.func 18) #[] #[]) #[x0] r85.2).bind fun r86 =>
  (Qext r86.1 0).bind fun v87 =>
  (Qext r86.1 1).bind fun _ =>
  (Qext r86.1 2).bind fun v89 =>
  (Xcall Try.prog (Value.func (Fn.func 15) #[] #[]) #[] r86.2).bind fun r90 =>
  (Qun Go.UnOp.not r90.1).bind fun v91 =>
  (guardQ v91 false (Qun Go.UnOp.not (gv (isB v91 false) v89))).bind fun v92 =>
  (Qpick v91 (Go.Value.bool true) v92).bind fun v93 =>
  condK v93 (
    some ((Go.Value.bool false), r90.2)
  ) (
    (Xcall Try.prog (Value.func (Fn.func 17) #[] #[]) #[v87] r90.2).bind fun r94 =>
    (Qlen Try.prog #[32] 3 #[r94.1] r94.2).bind fun v95 =>
    (QfieldAddr Try.prog 39 r85.1 2).bind fun v96 =>
    (Qload Try.prog 37 v96 r94.2).bind fun v97 =>
    (QfieldAddr Try.prog 39 r85.1 3).bind fun v98 =>
    (Qload Try.prog 3 v98 r94.2).bind fun v99 =>
    (Xcall Try.prog (Value.func (Fn.func 20) #[] #[]) #[v87, v97, v99] r94.2).bind fun r100 =>
    (Qext r100.1 0).bind fun v101 =>
    (Qext r100.1 1).bind fun v102 =>
    (Xalloc Try.prog 25 r100.2).bind fun r103 =>
    (Xstore Try.prog 25 r103.1 v101 r103.2).bind fun r104 =>
    (QfieldAddr Try.prog 39 r85.1 2).bind fun v105 =>
    (Qload Try.prog 37 v105 r104.2).bind fun v106 =>
    (QfieldAddr Try.prog 39 r85.1 3).bind fun v107 =>
    (Qload Try.prog 3 v107 r104.2).bind fun v108 =>
    (Xcall Try.prog (Value.func (Fn.func 21) #[] #[]) #[v87, v106, v108] r104.2).bind fun r109 =>
    (Qext r109.1 0).bind fun v110 =>
    (Qext r109.1 1).bind fun v111 =>
    (Xalloc Try.prog 25 r109.2).bind fun r112 =>
    (Xstore Try.prog 25 r112.1 v110 r112.2).bind fun r113 =>
    (Qbin Try.prog Go.BinOp.neq 4 v102 v111).bind fun v114 =>
    (guardQ v114 false (Qload Try.prog 25 r103.1 r113.2)).bind fun v115 =>
    (guardQ v114 false (Qload Try.prog 25 r112.1 r113.2)).bind fun v116 =>
    (guardQ v114 false (Qbin Try.prog Go.BinOp.neq 25 v115 v116)).bind fun v117 =>
    (Qpick v114 (Go.Value.bool true) v117).bind fun v118 =>
    (guardQ v118 false (Qun Go.UnOp.not (gv (isB v118 false) v111))).bind fun v119 =>
    (Qpick v118 (Go.Value.bool true) v119).bind fun v120 =>
    condK v120 (
      (Qbin Try.prog Go.BinOp.eql 4 v102 v111).bind fun v121 =>
      (guardQ v121 true (Qload Try.prog 25 r103.1 r113.2)).bind fun v122 =>
      (guardQ v121 true (Qload Try.prog 25 r112.1 r113.2)).bind fun v123 =>
      (guardQ v121 true (Qbin Try.prog Go.BinOp.eql 25 v122 v123)).bind fun v124 =>
      (Qpick v121 v124 (Go.Value.bool false)).bind fun v125 =>
      (guardX v125 true r113.2 (Xcall Try.prog (Value.func (Fn.func 17) #[] #[]) #[(gv (isB v125 true) v87)] r113.2)).bind fun r126 =>
      (guardQ v125 true (Qlen Try.prog #[32] 3 #[r126.1] r126.2)).bind fun v127 =>
      (guardQ v125 true (Qbin Try.prog Go.BinOp.eql 3 v127 (gv (isB v125 true) v95))).bind fun v128 =>
      (Qpick v125 v128 (Go.Value.bool false)).bind fun v129 =>
      some (v129, r126.2)
    ) (
      (Xcall Try.prog (Value.func (Fn.func 17) #[] #[]) #[v87] r113.2).bind fun r130 =>
      loopR s6B0 s6R0 [r85.1, (Go.Value.bool false), v95, r112.1, r130.1, (Go.Value.int Go.IntKind.i64 0)] r130.2
    )
  )
theorem s6B0eq (x3 x4 x8 x11 x13 x14 : Value) (w : World) (g : Nat → Value) (d : List Deferred) : evK Try.prog 6 none (nav [1, 1, 1, 1, 1, 1, 1, 1, 0, 1, 0, 0] (bodyOf Try.f6)) none _ (frm 138 (setL [3, 4, 8, 11, 13, 14] [x3, x4, x8, x11, x13, x14] g) d) w (projK [3, 4, 8, 11, 13, 14]) = s6B0 [x3, x4, x8, x11, x13, x14] w := by kernel_rfl
theorem s6R0x0eq (x3 x4 x8 x11 x13 x14 : Value) (g : Nat → Value) (w : World) : s6K1 (Exit.exit 0) (frm 138 (setL [3, 4, 8, 11, 13, 14] [x3, x4, x8, x11, x13, x14] g) []) w = s6R0 (Exit.exit 0) [x3, x4, x8, x11, x13, x14] w := by kernel_rfl
theorem s6R0ret_eq (x3 x4 x8 x11 x13 x14 : Value) (g : Nat → Value) (w : World) : s6K1 Exit.ret (frm 138 (setL [3, 4, 8, 11, 13, 14] [x3, x4, x8, x11, x13, x14] g) []) w = s6R0 Exit.ret [x3, x4, x8, x11, x13, x14] w := by kernel_rfl
theorem s6R0of : ∀ (e : Exit) (xs : List Value) (w : World) (g : Nat → Value) (y : _), s6R0 e xs w = some y → s6K1 e (frm 138 (setL [3, 4, 8, 11, 13, 14] xs g) []) w = some y := by
  intro e xs w g y h
  unfold s6R0 at h
  split at h
  · exact (s6R0x0eq _ _ _ _ _ _ g _).trans h
  · exact (s6R0ret_eq _ _ _ _ _ _ g _).trans h
  · cases h
theorem s6L0of {s0 s1 s2 s3 s4 s5 s6 s7 s8 s9 s10 s11 s12 s13 s14 s15 s16 s17 s18 s19 s20 s21 s22 s23 s24 s25 s26 s27 s28 s29 s30 s31 s32 s33 s34 s35 s36 s37 s38 s39 s40 s41 s42 s43 s44 s45 s46 s47 s48 s49 s50 s51 s52 s53 s54 s55 s56 s57 s58 s59 s60 s61 s62 s63 s64 s65 s66 s67 s68 s69 s70 s71 s72 s73 s74 s75 s76 s77 s78 s79 s80 s81 s82 s83 s84 s85 s86 s87 s88 s89 s90 s91 s92 s93 s94 s95 s96 s97 s98 s99 s100 s101 s102 s103 s104 s105 s106 s107 s108 s109 s110 s111 s112 s113 s114 s115 s116 s117 s118 s119 s120 s121 s122 s123 s124 s125 s126 s127 s128 s129 s130 s131 s132 s133 s134 s135 s136 s137 : Value} {w : World} {r : _} (h : loopR s6B0 s6R0 [s3, s4, s8, s11, s13, s14] w = some r) : s6L0 [s0, s1, s2, s3, s4, s5, s6, s7, s8, s9, s10, s11, s12, s13, s14, s15, s16, s17, s18, s19, s20, s21, s22, s23, s24, s25, s26, s27, s28, s29, s30, s31, s32, s33, s34, s35, s36, s37, s38, s39, s40, s41, s42, s43, s44, s45, s46, s47, s48, s49, s50, s51, s52, s53, s54, s55, s56, s57, s58, s59, s60, s61, s62, s63, s64, s65, s66, s67, s68, s69, s70, s71, s72, s73, s74, s75, s76, s77, s78, s79, s80, s81, s82, s83, s84, s85, s86, s87, s88, s89, s90, s91, s92, s93, s94, s95, s96, s97, s98, s99, s100, s101, s102, s103, s104, s105, s106, s107, s108, s109, s110, s111, s112, s113, s114, s115, s116, s117, s118, s119, s120, s121, s122, s123, s124, s125, s126, s127, s128, s129, s130, s131, s132, s133, s134, s135, s136, s137] [] w = some r :=
  loopN_of (B := s6B0) (R := s6R0) (n := 138) (live := [3, 4, 8, 11, 13, 14]) (fun xs w g y hl h => match xs, hl, h with | [x3, x4, x8, x11, x13, x14], _, h => (s6B0eq x3 x4 x8 x11 x13 x14 w g []).trans h) (by kernel_rfl) (s6R0of) (fun i => ([s0, s1, s2, s3, s4, s5, s6, s7, s8, s9, s10, s11, s12, s13, s14, s15, s16, s17, s18, s19, s20, s21, s22, s23, s24, s25, s26, s27, s28, s29, s30, s31, s32, s33, s34, s35, s36, s37, s38, s39, s40, s41, s42, s43, s44, s45, s46, s47, s48, s49, s50, s51, s52, s53, s54, s55, s56, s57, s58, s59, s60, s61, s62, s63, s64, s65, s66, s67, s68, s69, s70, s71, s72, s73, s74, s75, s76, s77, s78, s79, s80, s81, s82, s83, s84, s85, s86, s87, s88, s89, s90, s91, s92, s93, s94, s95, s96, s97, s98, s99, s100, s101, s102, s103, s104, s105, s106, s107, s108, s109, s110, s111, s112, s113, s114, s115, s116, s117, s118, s119, s120, s121, s122, s123, s124, s125, s126, s127, s128, s129, s130, s131, s132, s133, s134, s135, s136, s137] : List Value).getD i undef) (by kernel_rfl) rfl h
theorem s6eq (x0 x1 : Value) (w : World) : evK Try.prog 6 none (bodyOf Try.f6) none _ { tmps := (([x0, x1] : List Value) ++ List.replicate (138 - 2) undef).toArray, defers := [] } w (leaveK Try.prog Try.f6) = s6raw x0 x1 w := by kernel_rfl
theorem c6 {x0 x1 : Value} {w : World} {r : Value × World} (h : s6 x0 x1 w = some r) : C Try.prog 6 #[x0, x1] w = some r :=
  C_ev follows_all drawLaw (by kernel_rfl) Try.func6 (by rfl) ((s6eq x0 x1 w).trans (show s6raw x0 x1 w = some r from (Ev.bind_mono fun (r85 : Value × World) => (Ev.bind_mono fun (r86 : Value × World) => (Ev.bind_mono fun (v87 : Value) => (Ev.bind_mono fun (v88 : Value) => (Ev.bind_mono fun (v89 : Value) => (Ev.bind_mono fun (r90 : Value × World) => (Ev.bind_mono fun (v91 : Value) => (Ev.bind_mono fun (v92 : Value) => (Ev.bind_mono fun (v93 : Value) => (condK_mono id (Ev.bind_mono fun (r94 : Value × World) => (Ev.bind_mono fun (v95 : Value) => (Ev.bind_mono fun (v96 : Value) => (Ev.bind_mono fun (v97 : Value) => (Ev.bind_mono fun (v98 : Value) => (Ev.bind_mono fun (v99 : Value) => (Ev.bind_mono fun (r100 : Value × World) => (Ev.bind_mono fun (v101 : Value) => (Ev.bind_mono fun (v102 : Value) => (Ev.bind_mono fun (r103 : Value × World) => (Ev.bind_mono fun (r104 : Value × World) => (Ev.bind_mono fun (v105 : Value) => (Ev.bind_mono fun (v106 : Value) => (Ev.bind_mono fun (v107 : Value) => (Ev.bind_mono fun (v108 : Value) => (Ev.bind_mono fun (r109 : Value × World) => (Ev.bind_mono fun (v110 : Value) => (Ev.bind_mono fun (v111 : Value) => (Ev.bind_mono fun (r112 : Value × World) => (Ev.bind_mono fun (r113 : Value × World) => (Ev.bind_mono fun (v114 : Value) => (Ev.bind_mono fun (v115 : Value) => (Ev.bind_mono fun (v116 : Value) => (Ev.bind_mono fun (v117 : Value) => (Ev.bind_mono fun (v118 : Value) => (Ev.bind_mono fun (v119 : Value) => (Ev.bind_mono fun (v120 : Value) => (condK_mono id (Ev.bind_mono fun (r130 : Value × World) => (s6L0of)))))))))))))))))))))))))))))))))))))))) h))
theorem e6 {x0 x1 : Value} {w : World} {Q : Value × World → Prop} (h : Brings (s6 x0 x1 w) Q) : Brings (Xcall Try.prog (Value.func (Fn.func 6) #[] #[]) #[x0, x1] w) Q :=
  h.call (Xcall_fn Try.func6 (by decide +kernel) (by rfl) _ _ _ w) fun _ h => c6 h

/-! lychgate/lychgatelaw12.ExpectLimits -/
noncomputable def s7K0 : Exit → Act → World → Option (Value × World) := seqK (fun a w => evK Try.prog 7 none (nav [1, 1, 1, 1, 1] (bodyOf Try.f7)) none _ a w (leaveK Try.prog Try.f7)) (leaveK Try.prog Try.f7)
noncomputable def s7K1 : Exit → Act → World → Option (Value × World) := blockK 0 s7K0
noncomputable def s7L0 (s : List Value) (d : List Deferred) (w : World) : Option (Value × World) := loopN Try.prog 7 none (nav [1, 1, 1, 1, 0, 1, 0, 0] (bodyOf Try.f7)) s7K1 s d w
noncomputable def s7K2 : Exit → Act → World → Option (Exit × List Value × World) := seqK (fun a w => evK Try.prog 7 none (nav [1, 1, 1, 1, 0, 1, 0, 0, 1, 1] (bodyOf Try.f7)) none _ a w (projK [2, 6, 7])) (projK [2, 6, 7])
noncomputable def s7K3 : Exit → Act → World → Option (Exit × List Value × World) := blockK 1 s7K2
noncomputable def s7K4 : Exit → Act → World → Option (Exit × List Value × World) := seqK (fun a w => evK Try.prog 7 none (nav [1, 1, 1, 1, 0, 1, 0, 0, 1, 0, 0, 1, 1] (bodyOf Try.f7)) none _ a w s7K3) s7K3
noncomputable def s7K5 : Exit → Act → World → Option (Exit × List Value × World) := blockK 2 s7K4
noncomputable def s7L1 (s : List Value) (d : List Deferred) (w : World) : Option (Exit × List Value × World) := loopN Try.prog 7 none (nav [1, 1, 1, 1, 0, 1, 0, 0, 1, 0, 0, 1, 0, 1, 0, 0] (bodyOf Try.f7)) s7K5 s d w
noncomputable def s7K6 : Exit → Act → World → Option (Exit × List Value × World) := seqK (fun a w => evK Try.prog 7 none (nav [1, 1, 1, 1, 0, 1, 0, 0, 1, 0, 0, 1, 0, 1, 0, 0, 1, 1] (bodyOf Try.f7)) none _ a w (projK [2, 6, 7, 8, 9])) (projK [2, 6, 7, 8, 9])
noncomputable def s7K7 : Exit → Act → World → Option (Exit × List Value × World) := blockK 3 s7K6
noncomputable def s7K8 : Exit → Act → World → Option (Exit × List Value × World) := seqK (fun a w => evK Try.prog 7 none (nav [1, 1, 1, 1, 0, 1, 0, 0, 1, 0, 0, 1, 0, 1, 0, 0, 1, 0, 0, 1] (bodyOf Try.f7)) none _ a w s7K7) s7K7
noncomputable def s7J2 (s : List Value) (d : List Deferred) (w : World) : Option (Exit × List Value × World) := s7K8 .normal ⟨s.toArray, d⟩ w
noncomputable def s7M2 (s2 s6 s7 s8 s9 : Value) (w : World) : Option (Exit × List Value × World) :=
  (Qbin Try.prog Go.BinOp.neq 3 s9 s7).bind fun v204 =>
  (guardQ v204 true (QindexAddr Try.prog 32 (gv (isB v204 true) s6) (gv (isB v204 true) s9) w.drew)).bind fun v205 =>
  (guardQ v204 true (QfieldAddr Try.prog 25 v205 0)).bind fun v206 =>
  (guardQ v204 true (Qload Try.prog 5 v206 w.drew)).bind fun v207 =>
  (guardQ v204 true (QindexAddr Try.prog 32 (gv (isB v204 true) s6) (gv (isB v204 true) s7) w.drew)).bind fun v208 =>
  (guardQ v204 true (QfieldAddr Try.prog 25 v208 0)).bind fun v209 =>
  (guardQ v204 true (Qload Try.prog 5 v209 w.drew)).bind fun v210 =>
  (guardQ v204 true (Qbin Try.prog Go.BinOp.eql 5 v207 v210)).bind fun v211 =>
  (Qpick v204 v211 (Go.Value.bool false)).bind fun v212 =>
  (guardQ v212 true (QindexAddr Try.prog 32 (gv (isB v212 true) s6) (gv (isB v212 true) s9) w.drew)).bind fun v213 =>
  (guardQ v212 true (QfieldAddr Try.prog 25 v213 2)).bind fun v214 =>
  (guardQ v212 true (Qload Try.prog 22 v214 w.drew)).bind fun v215 =>
  (guardQ v212 true (QindexAddr Try.prog 32 (gv (isB v212 true) s6) (gv (isB v212 true) s7) w.drew)).bind fun v216 =>
  (guardQ v212 true (QfieldAddr Try.prog 25 v216 2)).bind fun v217 =>
  (guardQ v212 true (Qload Try.prog 22 v217 w.drew)).bind fun v218 =>
  (guardQ v212 true (Qbin Try.prog Go.BinOp.eql 22 v215 v218)).bind fun v219 =>
  (Qpick v212 v219 (Go.Value.bool false)).bind fun v220 =>
  (guardQ v220 true (QindexAddr Try.prog 32 (gv (isB v220 true) s6) (gv (isB v220 true) s9) w.drew)).bind fun v221 =>
  (guardQ v220 true (QfieldAddr Try.prog 25 v221 4)).bind fun v222 =>
  (guardQ v220 true (Qload Try.prog 23 v222 w.drew)).bind fun v223 =>
  (guardQ v220 true (QindexAddr Try.prog 32 (gv (isB v220 true) s6) (gv (isB v220 true) s7) w.drew)).bind fun v224 =>
  (guardQ v220 true (QfieldAddr Try.prog 25 v224 4)).bind fun v225 =>
  (guardQ v220 true (Qload Try.prog 23 v225 w.drew)).bind fun v226 =>
  (guardQ v220 true (Qbin Try.prog Go.BinOp.eql 23 v223 v226)).bind fun v227 =>
  (Qpick v220 v227 (Go.Value.bool false)).bind fun v228 =>
  chkK True (
    condK v228 (
      some (Exit.ret, [(Go.Value.bool false), s6, s7, s8, s9], w.drew)
    ) (
      (Qbin Try.prog Go.BinOp.add 3 s9 (Go.Value.int Go.IntKind.i64 1)).bind fun v229 =>
      some (Exit.normal, [s2, s6, s7, s8, v229], w.drew)
    )
  )
noncomputable def s7B1raw (g : Nat → Value) (d : List Deferred) : List Value → World → Option (Exit × List Value × World)
  | [x2, x6, x7, x8, x9], w =>
    (Qlen Try.prog #[32] 3 #[x6] w).bind fun v192 =>
    (Qbin Try.prog Go.BinOp.lss 3 x9 v192).bind fun v193 =>
    condK v193 (
      (QindexAddr Try.prog 32 x6 x9 w.drew).bind fun v194 =>
      (QfieldAddr Try.prog 25 v194 7).bind fun v195 =>
      (Qload Try.prog 3 v195 w.drew).bind fun v196 =>
      (QindexAddr Try.prog 32 x6 x7 w.drew).bind fun v197 =>
      (QfieldAddr Try.prog 25 v197 7).bind fun v198 =>
      (Qload Try.prog 3 v198 w.drew).bind fun v199 =>
      (Qbin Try.prog Go.BinOp.eql 3 v196 v199).bind fun v200 =>
      chkK True (
        condK v200 (
          (Qbin Try.prog Go.BinOp.add 3 x8 (Go.Value.int Go.IntKind.i64 1)).bind fun v201 =>
          s7J2 [(g 0), (g 1), x2, (g 3), (g 4), (g 5), x6, x7, v201, x9, (g 10), (g 11), (g 12), (g 13), (g 14), (g 15), (g 16), (g 17), (g 18), (g 19), (g 20), (g 21), (g 22), (g 23), (g 24), (g 25), (g 26), (g 27), (g 28), (g 29), x9, x6, v192, v193, (g 34), (g 35), x6, x9, v194, v195, v196, x6, x7, v197, v198, v199, v200, x8, v201, (g 49), (g 50), (g 51), (g 52), (g 53), (g 54), (g 55), (g 56), (g 57), (g 58), (g 59), (g 60), (g 61), (g 62), (g 63), (g 64), (g 65), (g 66), (g 67), (g 68), (g 69), (g 70), (g 71), (g 72), (g 73), (g 74), (g 75), (g 76), (g 77), (g 78), (g 79), (g 80), (g 81), (g 82), (g 83), (g 84), (g 85), (g 86), (g 87), (g 88), (g 89), (g 90), (g 91), (g 92), (g 93), (g 94), (g 95)] d w.drew
        ) (
          s7J2 [(g 0), (g 1), x2, (g 3), (g 4), (g 5), x6, x7, x8, x9, (g 10), (g 11), (g 12), (g 13), (g 14), (g 15), (g 16), (g 17), (g 18), (g 19), (g 20), (g 21), (g 22), (g 23), (g 24), (g 25), (g 26), (g 27), (g 28), (g 29), x9, x6, v192, v193, (g 34), (g 35), x6, x9, v194, v195, v196, x6, x7, v197, v198, v199, v200, (g 47), (g 48), (g 49), (g 50), (g 51), (g 52), (g 53), (g 54), (g 55), (g 56), (g 57), (g 58), (g 59), (g 60), (g 61), (g 62), (g 63), (g 64), (g 65), (g 66), (g 67), (g 68), (g 69), (g 70), (g 71), (g 72), (g 73), (g 74), (g 75), (g 76), (g 77), (g 78), (g 79), (g 80), (g 81), (g 82), (g 83), (g 84), (g 85), (g 86), (g 87), (g 88), (g 89), (g 90), (g 91), (g 92), (g 93), (g 94), (g 95)] d w.drew
        )
      )
    ) (
      some ((Exit.exit 2), [x2, x6, x7, x8, x9], w)
    )
  | _, _ => none
noncomputable def s7B1 : List Value → World → Option (Exit × List Value × World)
  | [x2, x6, x7, x8, x9], w =>
    (Qlen Try.prog #[32] 3 #[x6] w).bind fun v192 =>
    (Qbin Try.prog Go.BinOp.lss 3 x9 v192).bind fun v193 =>
    condK v193 (
      (QindexAddr Try.prog 32 x6 x9 w.drew).bind fun v194 =>
      (QfieldAddr Try.prog 25 v194 7).bind fun v195 =>
      (Qload Try.prog 3 v195 w.drew).bind fun v196 =>
      (QindexAddr Try.prog 32 x6 x7 w.drew).bind fun v197 =>
      (QfieldAddr Try.prog 25 v197 7).bind fun v198 =>
      (Qload Try.prog 3 v198 w.drew).bind fun v199 =>
      (Qbin Try.prog Go.BinOp.eql 3 v196 v199).bind fun v200 =>
      chkK True (
        condK v200 (
          (Qbin Try.prog Go.BinOp.add 3 x8 (Go.Value.int Go.IntKind.i64 1)).bind fun v201 =>
          s7M2 x2 x6 x7 v201 x9 w.drew
        ) (
          s7M2 x2 x6 x7 x8 x9 w.drew
        )
      )
    ) (
      some ((Exit.exit 2), [x2, x6, x7, x8, x9], w)
    )
  | _, _ => none
noncomputable def s7R1 : Exit → List Value → World → Option (Exit × List Value × World)
  | (Exit.exit 2), [x2, x6, x7, x8, _], w =>
    (Qbin Try.prog Go.BinOp.gtr 3 x8 (Go.Value.int Go.IntKind.i64 4)).bind fun v202 =>
    condK v202 (
      some (Exit.ret, [(Go.Value.bool false), x6, x7], w)
    ) (
      (Qbin Try.prog Go.BinOp.add 3 x7 (Go.Value.int Go.IntKind.i64 1)).bind fun v203 =>
      some (Exit.normal, [x2, x6, v203], w)
    )
  | Exit.ret, [x2, x6, x7, _, _], w =>
    some (Exit.ret, [x2, x6, x7], w)
  | _, _, _ => none
noncomputable def s7B0raw (g : Nat → Value) (d : List Deferred) : List Value → World → Option (Exit × List Value × World)
  | [x2, x6, x7], w =>
    (Qlen Try.prog #[32] 3 #[x6] w).bind fun v188 =>
    (Qbin Try.prog Go.BinOp.lss 3 x7 v188).bind fun v189 =>
    condK v189 (
      s7L1 [(g 0), (g 1), x2, (g 3), (g 4), (g 5), x6, x7, (Go.Value.int Go.IntKind.i64 0), (Go.Value.int Go.IntKind.i64 0), (g 10), (g 11), (g 12), (g 13), (g 14), (g 15), (g 16), (g 17), (g 18), (g 19), (g 20), (g 21), (g 22), (g 23), x7, x6, v188, v189, (g 28), (g 29), (g 30), (g 31), (g 32), (g 33), (g 34), (g 35), (g 36), (g 37), (g 38), (g 39), (g 40), (g 41), (g 42), (g 43), (g 44), (g 45), (g 46), (g 47), (g 48), (g 49), (g 50), (g 51), (g 52), (g 53), (g 54), (g 55), (g 56), (g 57), (g 58), (g 59), (g 60), (g 61), (g 62), (g 63), (g 64), (g 65), (g 66), (g 67), (g 68), (g 69), (g 70), (g 71), (g 72), (g 73), (g 74), (g 75), (g 76), (g 77), (g 78), (g 79), (g 80), (g 81), (g 82), (g 83), (g 84), (g 85), (g 86), (g 87), (g 88), (g 89), (g 90), (g 91), (g 92), (g 93), (g 94), (g 95)] d w
    ) (
      some ((Exit.exit 0), [x2, x6, x7], w)
    )
  | _, _ => none
noncomputable def s7B0 : List Value → World → Option (Exit × List Value × World)
  | [x2, x6, x7], w =>
    (Qlen Try.prog #[32] 3 #[x6] w).bind fun v188 =>
    (Qbin Try.prog Go.BinOp.lss 3 x7 v188).bind fun v189 =>
    condK v189 (
      loopR s7B1 s7R1 [x2, x6, x7, (Go.Value.int Go.IntKind.i64 0), (Go.Value.int Go.IntKind.i64 0)] w
    ) (
      some ((Exit.exit 0), [x2, x6, x7], w)
    )
  | _, _ => none
noncomputable def s7R0 : Exit → List Value → World → Option (Value × World)
  | (Exit.exit 0), [_, x6, _], w =>
    (Qlen Try.prog #[32] 3 #[x6] w).bind fun v190 =>
    (Qbin Try.prog Go.BinOp.leq 3 v190 (Go.Value.int Go.IntKind.i64 32)).bind fun v191 =>
    some (v191, w)
  | Exit.ret, [x2, _, _], w =>
    some (x2, w)
  | _, _, _ => none
noncomputable def s7raw (x0 : Value) (w : World) : Option (Value × World) :=
  (Xcall Try.prog (Value.func (Fn.func 18) #[] #[]) #[x0] w).bind fun r179 =>
  (Qext r179.1 0).bind fun v180 =>
  (Qext r179.1 1).bind fun v181 =>
  (Qext r179.1 2).bind fun v182 =>
  (Xcall Try.prog (Value.func (Fn.func 15) #[] #[]) #[] r179.2).bind fun r183 =>
  (Qun Go.UnOp.not r183.1).bind fun v184 =>
  (guardQ v184 false (Qun Go.UnOp.not (gv (isB v184 false) v182))).bind fun v185 =>
  (Qpick v184 (Go.Value.bool true) v185).bind fun v186 =>
  condK v186 (
    some ((Go.Value.bool false), r183.2)
  ) (
    (Xcall Try.prog (Value.func (Fn.func 17) #[] #[]) #[v180] r183.2).bind fun r187 =>
    s7L0 [x0, undef, (Go.Value.bool false), v180, v181, v182, r187.1, (Go.Value.int Go.IntKind.i64 0), undef, undef, r179.1, x0, r179.1, v180, v181, v182, r183.1, v184, v184, (gv (isB v184 false) v182), v185, v186, v180, r187.1, undef, undef, undef, undef, undef, undef, undef, undef, undef, undef, undef, undef, undef, undef, undef, undef, undef, undef, undef, undef, undef, undef, undef, undef, undef, undef, undef, undef, undef, undef, undef, undef, undef, undef, undef, undef, undef, undef, undef, undef, undef, undef, undef, undef, undef, undef, undef, undef, undef, undef, undef, undef, undef, undef, undef, undef, undef, undef, undef, undef, undef, undef, undef, undef, undef, undef, undef, undef, undef, undef, undef, undef] [] r187.2
  )
noncomputable def s7 (x0 : Value) (w : World) : Option (Value × World) :=
  (Xcall Try.prog (Value.func (Fn.func 18) #[] #[]) #[x0] w).bind fun r179 =>
  (Qext r179.1 0).bind fun v180 =>
  (Qext r179.1 1).bind fun _ =>
  (Qext r179.1 2).bind fun v182 =>
  (Xcall Try.prog (Value.func (Fn.func 15) #[] #[]) #[] r179.2).bind fun r183 =>
  (Qun Go.UnOp.not r183.1).bind fun v184 =>
  (guardQ v184 false (Qun Go.UnOp.not (gv (isB v184 false) v182))).bind fun v185 =>
  (Qpick v184 (Go.Value.bool true) v185).bind fun v186 =>
  condK v186 (
    some ((Go.Value.bool false), r183.2)
  ) (
    (Xcall Try.prog (Value.func (Fn.func 17) #[] #[]) #[v180] r183.2).bind fun r187 =>
    loopR s7B0 s7R0 [(Go.Value.bool false), r187.1, (Go.Value.int Go.IntKind.i64 0)] r187.2
  )
theorem s7J2eq (s0 s1 s2 s3 s4 s5 s6 s7 s8 s9 s10 s11 s12 s13 s14 s15 s16 s17 s18 s19 s20 s21 s22 s23 s24 s25 s26 s27 s28 s29 s30 s31 s32 s33 s34 s35 s36 s37 s38 s39 s40 s41 s42 s43 s44 s45 s46 s47 s48 s49 s50 s51 s52 s53 s54 s55 s56 s57 s58 s59 s60 s61 s62 s63 s64 s65 s66 s67 s68 s69 s70 s71 s72 s73 s74 s75 s76 s77 s78 s79 s80 s81 s82 s83 s84 s85 s86 s87 s88 s89 s90 s91 s92 s93 s94 s95 : Value) (w : World) : s7J2 [s0, s1, s2, s3, s4, s5, s6, s7, s8, s9, s10, s11, s12, s13, s14, s15, s16, s17, s18, s19, s20, s21, s22, s23, s24, s25, s26, s27, s28, s29, s30, s31, s32, s33, s34, s35, s36, s37, s38, s39, s40, s41, s42, s43, s44, s45, s46, s47, s48, s49, s50, s51, s52, s53, s54, s55, s56, s57, s58, s59, s60, s61, s62, s63, s64, s65, s66, s67, s68, s69, s70, s71, s72, s73, s74, s75, s76, s77, s78, s79, s80, s81, s82, s83, s84, s85, s86, s87, s88, s89, s90, s91, s92, s93, s94, s95] [] w = s7M2 s2 s6 s7 s8 s9 w := (show s7J2 [s0, s1, s2, s3, s4, s5, s6, s7, s8, s9, s10, s11, s12, s13, s14, s15, s16, s17, s18, s19, s20, s21, s22, s23, s24, s25, s26, s27, s28, s29, s30, s31, s32, s33, s34, s35, s36, s37, s38, s39, s40, s41, s42, s43, s44, s45, s46, s47, s48, s49, s50, s51, s52, s53, s54, s55, s56, s57, s58, s59, s60, s61, s62, s63, s64, s65, s66, s67, s68, s69, s70, s71, s72, s73, s74, s75, s76, s77, s78, s79, s80, s81, s82, s83, s84, s85, s86, s87, s88, s89, s90, s91, s92, s93, s94, s95] [] w = evK Try.prog 7 none (nav [1, 1, 1, 1, 0, 1, 0, 0, 1, 0, 0, 1, 0, 1, 0, 0, 1, 0, 0, 1] (bodyOf Try.f7)) none _ ⟨[s0, s1, s2, s3, s4, s5, s6, s7, s8, s9, s10, s11, s12, s13, s14, s15, s16, s17, s18, s19, s20, s21, s22, s23, s24, s25, s26, s27, s28, s29, s30, s31, s32, s33, s34, s35, s36, s37, s38, s39, s40, s41, s42, s43, s44, s45, s46, s47, s48, s49, s50, s51, s52, s53, s54, s55, s56, s57, s58, s59, s60, s61, s62, s63, s64, s65, s66, s67, s68, s69, s70, s71, s72, s73, s74, s75, s76, s77, s78, s79, s80, s81, s82, s83, s84, s85, s86, s87, s88, s89, s90, s91, s92, s93, s94, s95].toArray, []⟩ w s7K7 from by kernel_rfl).trans (by kernel_rfl)
theorem s7J2of {s0 s1 s2 s3 s4 s5 s6 s7 s8 s9 s10 s11 s12 s13 s14 s15 s16 s17 s18 s19 s20 s21 s22 s23 s24 s25 s26 s27 s28 s29 s30 s31 s32 s33 s34 s35 s36 s37 s38 s39 s40 s41 s42 s43 s44 s45 s46 s47 s48 s49 s50 s51 s52 s53 s54 s55 s56 s57 s58 s59 s60 s61 s62 s63 s64 s65 s66 s67 s68 s69 s70 s71 s72 s73 s74 s75 s76 s77 s78 s79 s80 s81 s82 s83 s84 s85 s86 s87 s88 s89 s90 s91 s92 s93 s94 s95 : Value} {w : World} {r : _} (h : s7M2 s2 s6 s7 s8 s9 w = some r) : s7J2 [s0, s1, s2, s3, s4, s5, s6, s7, s8, s9, s10, s11, s12, s13, s14, s15, s16, s17, s18, s19, s20, s21, s22, s23, s24, s25, s26, s27, s28, s29, s30, s31, s32, s33, s34, s35, s36, s37, s38, s39, s40, s41, s42, s43, s44, s45, s46, s47, s48, s49, s50, s51, s52, s53, s54, s55, s56, s57, s58, s59, s60, s61, s62, s63, s64, s65, s66, s67, s68, s69, s70, s71, s72, s73, s74, s75, s76, s77, s78, s79, s80, s81, s82, s83, s84, s85, s86, s87, s88, s89, s90, s91, s92, s93, s94, s95] [] w = some r :=
  ((s7J2eq s0 s1 s2 s3 s4 s5 s6 s7 s8 s9 s10 s11 s12 s13 s14 s15 s16 s17 s18 s19 s20 s21 s22 s23 s24 s25 s26 s27 s28 s29 s30 s31 s32 s33 s34 s35 s36 s37 s38 s39 s40 s41 s42 s43 s44 s45 s46 s47 s48 s49 s50 s51 s52 s53 s54 s55 s56 s57 s58 s59 s60 s61 s62 s63 s64 s65 s66 s67 s68 s69 s70 s71 s72 s73 s74 s75 s76 s77 s78 s79 s80 s81 s82 s83 s84 s85 s86 s87 s88 s89 s90 s91 s92 s93 s94 s95 w).trans h)
theorem s7B1eq (x2 x6 x7 x8 x9 : Value) (w : World) (g : Nat → Value) (d : List Deferred) : evK Try.prog 7 none (nav [1, 1, 1, 1, 0, 1, 0, 0, 1, 0, 0, 1, 0, 1, 0, 0] (bodyOf Try.f7)) none _ (frm 96 (setL [2, 6, 7, 8, 9] [x2, x6, x7, x8, x9] g) d) w (projK [2, 6, 7, 8, 9]) = s7B1raw g d [x2, x6, x7, x8, x9] w := by kernel_rfl
theorem s7R1x2eq (x2 x6 x7 x8 x9 : Value) (g : Nat → Value) (w : World) : s7K5 (Exit.exit 2) (frm 96 (setL [2, 6, 7, 8, 9] [x2, x6, x7, x8, x9] g) []) w = s7R1 (Exit.exit 2) [x2, x6, x7, x8, x9] w := by kernel_rfl
theorem s7R1ret_eq (x2 x6 x7 x8 x9 : Value) (g : Nat → Value) (w : World) : s7K5 Exit.ret (frm 96 (setL [2, 6, 7, 8, 9] [x2, x6, x7, x8, x9] g) []) w = s7R1 Exit.ret [x2, x6, x7, x8, x9] w := by kernel_rfl
theorem s7R1of : ∀ (e : Exit) (xs : List Value) (w : World) (g : Nat → Value) (y : _), s7R1 e xs w = some y → s7K5 e (frm 96 (setL [2, 6, 7, 8, 9] xs g) []) w = some y := by
  intro e xs w g y h
  unfold s7R1 at h
  split at h
  · exact (s7R1x2eq _ _ _ _ _ g _).trans h
  · exact (s7R1ret_eq _ _ _ _ _ g _).trans h
  · cases h
theorem s7L1of {s0 s1 s2 s3 s4 s5 s6 s7 s8 s9 s10 s11 s12 s13 s14 s15 s16 s17 s18 s19 s20 s21 s22 s23 s24 s25 s26 s27 s28 s29 s30 s31 s32 s33 s34 s35 s36 s37 s38 s39 s40 s41 s42 s43 s44 s45 s46 s47 s48 s49 s50 s51 s52 s53 s54 s55 s56 s57 s58 s59 s60 s61 s62 s63 s64 s65 s66 s67 s68 s69 s70 s71 s72 s73 s74 s75 s76 s77 s78 s79 s80 s81 s82 s83 s84 s85 s86 s87 s88 s89 s90 s91 s92 s93 s94 s95 : Value} {w : World} {r : _} (h : loopR s7B1 s7R1 [s2, s6, s7, s8, s9] w = some r) : s7L1 [s0, s1, s2, s3, s4, s5, s6, s7, s8, s9, s10, s11, s12, s13, s14, s15, s16, s17, s18, s19, s20, s21, s22, s23, s24, s25, s26, s27, s28, s29, s30, s31, s32, s33, s34, s35, s36, s37, s38, s39, s40, s41, s42, s43, s44, s45, s46, s47, s48, s49, s50, s51, s52, s53, s54, s55, s56, s57, s58, s59, s60, s61, s62, s63, s64, s65, s66, s67, s68, s69, s70, s71, s72, s73, s74, s75, s76, s77, s78, s79, s80, s81, s82, s83, s84, s85, s86, s87, s88, s89, s90, s91, s92, s93, s94, s95] [] w = some r :=
  loopN_of (B := s7B1) (R := s7R1) (n := 96) (live := [2, 6, 7, 8, 9]) (fun xs w g y hl h => match xs, hl, h with | [x2, x6, x7, x8, x9], _, h => (s7B1eq x2 x6 x7 x8 x9 w g []).trans (show s7B1raw g [] [x2, x6, x7, x8, x9] w = some y from (Ev.bind_mono fun (v192 : Value) => (Ev.bind_mono fun (v193 : Value) => (condK_mono (Ev.bind_mono fun (v194 : Value) => (Ev.bind_mono fun (v195 : Value) => (Ev.bind_mono fun (v196 : Value) => (Ev.bind_mono fun (v197 : Value) => (Ev.bind_mono fun (v198 : Value) => (Ev.bind_mono fun (v199 : Value) => (Ev.bind_mono fun (v200 : Value) => (chkK_mono (condK_mono (Ev.bind_mono fun (v201 : Value) => (s7J2of)) (s7J2of)))))))))) id))) h)) (by kernel_rfl) (s7R1of) (fun i => ([s0, s1, s2, s3, s4, s5, s6, s7, s8, s9, s10, s11, s12, s13, s14, s15, s16, s17, s18, s19, s20, s21, s22, s23, s24, s25, s26, s27, s28, s29, s30, s31, s32, s33, s34, s35, s36, s37, s38, s39, s40, s41, s42, s43, s44, s45, s46, s47, s48, s49, s50, s51, s52, s53, s54, s55, s56, s57, s58, s59, s60, s61, s62, s63, s64, s65, s66, s67, s68, s69, s70, s71, s72, s73, s74, s75, s76, s77, s78, s79, s80, s81, s82, s83, s84, s85, s86, s87, s88, s89, s90, s91, s92, s93, s94, s95] : List Value).getD i undef) (by kernel_rfl) rfl h
theorem s7B0eq (x2 x6 x7 : Value) (w : World) (g : Nat → Value) (d : List Deferred) : evK Try.prog 7 none (nav [1, 1, 1, 1, 0, 1, 0, 0] (bodyOf Try.f7)) none _ (frm 96 (setL [2, 6, 7] [x2, x6, x7] g) d) w (projK [2, 6, 7]) = s7B0raw g d [x2, x6, x7] w := by kernel_rfl
theorem s7R0x0eq (x2 x6 x7 : Value) (g : Nat → Value) (w : World) : s7K1 (Exit.exit 0) (frm 96 (setL [2, 6, 7] [x2, x6, x7] g) []) w = s7R0 (Exit.exit 0) [x2, x6, x7] w := by kernel_rfl
theorem s7R0ret_eq (x2 x6 x7 : Value) (g : Nat → Value) (w : World) : s7K1 Exit.ret (frm 96 (setL [2, 6, 7] [x2, x6, x7] g) []) w = s7R0 Exit.ret [x2, x6, x7] w := by kernel_rfl
theorem s7R0of : ∀ (e : Exit) (xs : List Value) (w : World) (g : Nat → Value) (y : _), s7R0 e xs w = some y → s7K1 e (frm 96 (setL [2, 6, 7] xs g) []) w = some y := by
  intro e xs w g y h
  unfold s7R0 at h
  split at h
  · exact (s7R0x0eq _ _ _ g _).trans h
  · exact (s7R0ret_eq _ _ _ g _).trans h
  · cases h
theorem s7L0of {s0 s1 s2 s3 s4 s5 s6 s7 s8 s9 s10 s11 s12 s13 s14 s15 s16 s17 s18 s19 s20 s21 s22 s23 s24 s25 s26 s27 s28 s29 s30 s31 s32 s33 s34 s35 s36 s37 s38 s39 s40 s41 s42 s43 s44 s45 s46 s47 s48 s49 s50 s51 s52 s53 s54 s55 s56 s57 s58 s59 s60 s61 s62 s63 s64 s65 s66 s67 s68 s69 s70 s71 s72 s73 s74 s75 s76 s77 s78 s79 s80 s81 s82 s83 s84 s85 s86 s87 s88 s89 s90 s91 s92 s93 s94 s95 : Value} {w : World} {r : _} (h : loopR s7B0 s7R0 [s2, s6, s7] w = some r) : s7L0 [s0, s1, s2, s3, s4, s5, s6, s7, s8, s9, s10, s11, s12, s13, s14, s15, s16, s17, s18, s19, s20, s21, s22, s23, s24, s25, s26, s27, s28, s29, s30, s31, s32, s33, s34, s35, s36, s37, s38, s39, s40, s41, s42, s43, s44, s45, s46, s47, s48, s49, s50, s51, s52, s53, s54, s55, s56, s57, s58, s59, s60, s61, s62, s63, s64, s65, s66, s67, s68, s69, s70, s71, s72, s73, s74, s75, s76, s77, s78, s79, s80, s81, s82, s83, s84, s85, s86, s87, s88, s89, s90, s91, s92, s93, s94, s95] [] w = some r :=
  loopN_of (B := s7B0) (R := s7R0) (n := 96) (live := [2, 6, 7]) (fun xs w g y hl h => match xs, hl, h with | [x2, x6, x7], _, h => (s7B0eq x2 x6 x7 w g []).trans (show s7B0raw g [] [x2, x6, x7] w = some y from (Ev.bind_mono fun (v188 : Value) => (Ev.bind_mono fun (v189 : Value) => (condK_mono (s7L1of) id))) h)) (by kernel_rfl) (s7R0of) (fun i => ([s0, s1, s2, s3, s4, s5, s6, s7, s8, s9, s10, s11, s12, s13, s14, s15, s16, s17, s18, s19, s20, s21, s22, s23, s24, s25, s26, s27, s28, s29, s30, s31, s32, s33, s34, s35, s36, s37, s38, s39, s40, s41, s42, s43, s44, s45, s46, s47, s48, s49, s50, s51, s52, s53, s54, s55, s56, s57, s58, s59, s60, s61, s62, s63, s64, s65, s66, s67, s68, s69, s70, s71, s72, s73, s74, s75, s76, s77, s78, s79, s80, s81, s82, s83, s84, s85, s86, s87, s88, s89, s90, s91, s92, s93, s94, s95] : List Value).getD i undef) (by kernel_rfl) rfl h
theorem s7eq (x0 : Value) (w : World) : evK Try.prog 7 none (bodyOf Try.f7) none _ { tmps := (([x0] : List Value) ++ List.replicate (96 - 1) undef).toArray, defers := [] } w (leaveK Try.prog Try.f7) = s7raw x0 w := by kernel_rfl
theorem c7 {x0 : Value} {w : World} {r : Value × World} (h : s7 x0 w = some r) : C Try.prog 7 #[x0] w = some r :=
  C_ev follows_all drawLaw (by kernel_rfl) Try.func7 (by rfl) ((s7eq x0 w).trans (show s7raw x0 w = some r from (Ev.bind_mono fun (r179 : Value × World) => (Ev.bind_mono fun (v180 : Value) => (Ev.bind_mono fun (v181 : Value) => (Ev.bind_mono fun (v182 : Value) => (Ev.bind_mono fun (r183 : Value × World) => (Ev.bind_mono fun (v184 : Value) => (Ev.bind_mono fun (v185 : Value) => (Ev.bind_mono fun (v186 : Value) => (condK_mono id (Ev.bind_mono fun (r187 : Value × World) => (s7L0of))))))))))) h))
theorem e7 {x0 : Value} {w : World} {Q : Value × World → Prop} (h : Brings (s7 x0 w) Q) : Brings (Xcall Try.prog (Value.func (Fn.func 7) #[] #[]) #[x0] w) Q :=
  h.call (Xcall_fn Try.func7 (by decide +kernel) (by rfl) _ _ _ w) fun _ h => c7 h

/-! lychgate/lychgatelaw12.ExpectEnds -/
noncomputable def s8K0 : Exit → Act → World → Option (Value × World) := seqK (fun a w => evK Try.prog 8 none (nav [1, 1, 1, 1, 1, 1] (bodyOf Try.f8)) none _ a w (leaveK Try.prog Try.f8)) (leaveK Try.prog Try.f8)
noncomputable def s8K1 : Exit → Act → World → Option (Value × World) := blockK 0 s8K0
noncomputable def s8L0 (s : List Value) (d : List Deferred) (w : World) : Option (Value × World) := loopN Try.prog 8 none (nav [1, 1, 1, 1, 1, 0, 1, 0, 0] (bodyOf Try.f8)) s8K1 s d w
noncomputable def s8K2 : Exit → Act → World → Option (Value × World) := seqK (fun a w => evK Try.prog 8 none (nav [1, 1, 1, 1, 1, 1, 1, 1, 1] (bodyOf Try.f8)) none _ a w (leaveK Try.prog Try.f8)) (leaveK Try.prog Try.f8)
noncomputable def s8K3 : Exit → Act → World → Option (Value × World) := blockK 2 s8K2
noncomputable def s8L1 (s : List Value) (d : List Deferred) (w : World) : Option (Value × World) := loopN Try.prog 8 none (nav [1, 1, 1, 1, 1, 1, 1, 1, 0, 1, 0, 0] (bodyOf Try.f8)) s8K3 s d w
noncomputable def s8K4 : Exit → Act → World → Option (Value × World) := seqK (fun a w => evK Try.prog 8 none (nav [1, 1, 1, 1, 1, 1, 1, 1, 1, 1] (bodyOf Try.f8)) none _ a w (leaveK Try.prog Try.f8)) (leaveK Try.prog Try.f8)
noncomputable def s8K5 : Exit → Act → World → Option (Value × World) := blockK 4 s8K4
noncomputable def s8L2 (s : List Value) (d : List Deferred) (w : World) : Option (Value × World) := loopN Try.prog 8 none (nav [1, 1, 1, 1, 1, 1, 1, 1, 1, 0, 1, 0, 0] (bodyOf Try.f8)) s8K5 s d w
noncomputable def s8B2 : List Value → World → Option (Exit × List Value × World)
  | [x1, x2, x6, x7, x10, x11, x13, x14, x16], w =>
    (Qlen Try.prog #[32] 3 #[x14] w).bind fun v265 =>
    (Qbin Try.prog Go.BinOp.lss 3 x16 v265).bind fun v266 =>
    condK v266 (
      (QindexAddr Try.prog 32 x14 x16 w).bind fun v267 =>
      (QfieldAddr Try.prog 25 v267 8).bind fun v268 =>
      (Qload Try.prog 3 v268 w).bind fun v269 =>
      (Qbin Try.prog Go.BinOp.gtr 3 v269 x2).bind fun v270 =>
      (guardQ v270 false (QindexAddr Try.prog 32 (gv (isB v270 false) x14) (gv (isB v270 false) x16) w)).bind fun v271 =>
      (guardQ v270 false (QfieldAddr Try.prog 25 v271 7)).bind fun v272 =>
      (guardQ v270 false (Qload Try.prog 3 v272 w)).bind fun v273 =>
      (guardQ v270 false (Qbin Try.prog Go.BinOp.eql 3 v273 (gv (isB v270 false) x1))).bind fun v274 =>
      (Qpick v270 (Go.Value.bool true) v274).bind fun v275 =>
      condK v275 (
        some (Exit.ret, [x1, x2, (Go.Value.bool false), x7, x10, x11, x13, x14, x16], w)
      ) (
        (Qbin Try.prog Go.BinOp.add 3 x16 (Go.Value.int Go.IntKind.i64 1)).bind fun v276 =>
        some (Exit.normal, [x1, x2, x6, x7, x10, x11, x13, x14, v276], w)
      )
    ) (
      some ((Exit.exit 4), [x1, x2, x6, x7, x10, x11, x13, x14, x16], w)
    )
  | _, _ => none
noncomputable def s8R2 : Exit → List Value → World → Option (Value × World)
  | (Exit.exit 4), [_, _, _, x7, x10, x11, x13, x14, _], w =>
    (Qlen Try.prog #[32] 3 #[x13] w).bind fun v277 =>
    (Qlen Try.prog #[32] 3 #[x14] w).bind fun v278 =>
    (Qbin Try.prog Go.BinOp.add 3 v277 v278).bind fun v279 =>
    (Qlen Try.prog #[32] 3 #[x10] w).bind fun v280 =>
    (Qbin Try.prog Go.BinOp.add 3 v279 v280).bind fun v281 =>
    (Qlen Try.prog #[32] 3 #[x11] w).bind fun v282 =>
    (Qbin Try.prog Go.BinOp.eql 3 v281 v282).bind fun v283 =>
    (guardX v283 true w (Xcall Try.prog (Value.func (Fn.func 17) #[] #[]) #[(gv (isB v283 true) x7)] w)).bind fun r284 =>
    (guardX v283 true r284.2 (Xcall Try.prog (Value.func (Fn.func 24) #[] #[]) #[r284.1, (gv (isB v283 true) x10)] r284.2)).bind fun r285 =>
    (Qpick v283 r285.1 (Go.Value.bool false)).bind fun v286 =>
    some (v286, r285.2)
  | Exit.ret, [_, _, x6, _, _, _, _, _, _], w =>
    some (x6, w)
  | _, _, _ => none
noncomputable def s8B1 : List Value → World → Option (Exit × List Value × World)
  | [x1, x2, x6, x7, x10, x11, x13, x14, x15], w =>
    (Qlen Try.prog #[32] 3 #[x13] w).bind fun v258 =>
    (Qbin Try.prog Go.BinOp.lss 3 x15 v258).bind fun v259 =>
    condK v259 (
      (QindexAddr Try.prog 32 x13 x15 w).bind fun v260 =>
      (QfieldAddr Try.prog 25 v260 7).bind fun v261 =>
      (Qload Try.prog 3 v261 w).bind fun v262 =>
      (Qbin Try.prog Go.BinOp.neq 3 v262 x1).bind fun v263 =>
      condK v263 (
        some (Exit.ret, [x1, x2, (Go.Value.bool false), x7, x10, x11, x13, x14, x15], w)
      ) (
        (Qbin Try.prog Go.BinOp.add 3 x15 (Go.Value.int Go.IntKind.i64 1)).bind fun v264 =>
        some (Exit.normal, [x1, x2, x6, x7, x10, x11, x13, x14, v264], w)
      )
    ) (
      some ((Exit.exit 2), [x1, x2, x6, x7, x10, x11, x13, x14, x15], w)
    )
  | _, _ => none
noncomputable def s8R1 : Exit → List Value → World → Option (Value × World)
  | (Exit.exit 2), [x1, x2, x6, x7, x10, x11, x13, x14, _], w =>
    loopR s8B2 s8R2 [x1, x2, x6, x7, x10, x11, x13, x14, (Go.Value.int Go.IntKind.i64 0)] w
  | Exit.ret, [_, _, x6, _, _, _, _, _, _], w =>
    some (x6, w)
  | _, _, _ => none
noncomputable def s8R1x2raw (x1 x2 x6 x7 x10 x11 x13 x14 x15 : Value) (g : Nat → Value) (w : World) : Option (Value × World) :=
  s8L2 [(g 0), x1, x2, (g 3), (g 4), (g 5), x6, x7, (g 8), (g 9), x10, x11, (g 12), x13, x14, x15, (Go.Value.int Go.IntKind.i64 0), (g 17), (g 18), (g 19), (g 20), (g 21), (g 22), (g 23), (g 24), (g 25), (g 26), (g 27), (g 28), (g 29), (g 30), (g 31), (g 32), (g 33), (g 34), (g 35), (g 36), (g 37), (g 38), (g 39), (g 40), (g 41), (g 42), (g 43), (g 44), (g 45), (g 46), (g 47), (g 48), (g 49), (g 50), (g 51), (g 52), (g 53), (g 54), (g 55), (g 56), (g 57), (g 58), (g 59), (g 60), (g 61), (g 62), (g 63), (g 64), (g 65), (g 66), (g 67), (g 68), (g 69), (g 70), (g 71), (g 72), (g 73), (g 74), (g 75), (g 76), (g 77), (g 78), (g 79), (g 80), (g 81), (g 82), (g 83), (g 84), (g 85), (g 86), (g 87), (g 88), (g 89), (g 90), (g 91), (g 92), (g 93), (g 94), (g 95), (g 96), (g 97), (g 98), (g 99), (g 100), (g 101), (g 102), (g 103), (g 104), (g 105), (g 106), (g 107), (g 108), (g 109), (g 110), (g 111), (g 112), (g 113), (g 114), (g 115), (g 116), (g 117)] [] w
noncomputable def s8B0 : List Value → World → Option (Exit × List Value × World)
  | [x1, x2, x6, x7, x10, x11, x12], w =>
    (Qlen Try.prog #[32] 3 #[x11] w).bind fun v239 =>
    (Qbin Try.prog Go.BinOp.lss 3 x12 v239).bind fun v240 =>
    condK v240 (
      (QindexAddr Try.prog 32 x11 x12 w).bind fun v241 =>
      (QfieldAddr Try.prog 25 v241 7).bind fun v242 =>
      (Qload Try.prog 3 v242 w).bind fun v243 =>
      (Qbin Try.prog Go.BinOp.neq 3 v243 x1).bind fun v244 =>
      (guardQ v244 true (QindexAddr Try.prog 32 (gv (isB v244 true) x11) (gv (isB v244 true) x12) w)).bind fun v245 =>
      (guardQ v244 true (QfieldAddr Try.prog 25 v245 8)).bind fun v246 =>
      (guardQ v244 true (Qload Try.prog 3 v246 w)).bind fun v247 =>
      (guardQ v244 true (Qbin Try.prog Go.BinOp.gtr 3 v247 (gv (isB v244 true) x2))).bind fun v248 =>
      (Qpick v244 v248 (Go.Value.bool false)).bind fun v249 =>
      condK v249 (
        (QindexAddr Try.prog 32 x11 x12 w).bind fun v250 =>
        (Qload Try.prog 25 v250 w).bind fun v251 =>
        (XbuildSlice Try.prog 32 1 #[(0, v251)] w).bind fun r252 =>
        (Xbi Try.prog Go.Builtin.append #[32, 32] 32 #[x10, r252.1] r252.2).bind fun r253 =>
        (Qbin Try.prog Go.BinOp.add 3 x12 (Go.Value.int Go.IntKind.i64 1)).bind fun v254 =>
        some (Exit.normal, [x1, x2, x6, x7, r253.1, x11, v254], r253.2)
      ) (
        (Qbin Try.prog Go.BinOp.add 3 x12 (Go.Value.int Go.IntKind.i64 1)).bind fun v255 =>
        some (Exit.normal, [x1, x2, x6, x7, x10, x11, v255], w)
      )
    ) (
      some ((Exit.exit 0), [x1, x2, x6, x7, x10, x11, x12], w)
    )
  | _, _ => none
noncomputable def s8R0 : Exit → List Value → World → Option (Value × World)
  | (Exit.exit 0), [x1, x2, x6, x7, x10, x11, _], w =>
    (Xcall Try.prog (Value.func (Fn.func 22) #[] #[]) #[x7, x1] w).bind fun r256 =>
    (Xcall Try.prog (Value.func (Fn.func 23) #[] #[]) #[x7, x2] r256.2).bind fun r257 =>
    loopR s8B1 s8R1 [x1, x2, x6, x7, x10, x11, r256.1, r257.1, (Go.Value.int Go.IntKind.i64 0)] r257.2
  | _, _, _ => none
noncomputable def s8R0x0raw (x1 x2 x6 x7 x10 x11 x12 : Value) (g : Nat → Value) (w : World) : Option (Value × World) :=
  (Xcall Try.prog (Value.func (Fn.func 22) #[] #[]) #[x7, x1] w).bind fun r256 =>
  (Xcall Try.prog (Value.func (Fn.func 23) #[] #[]) #[x7, x2] r256.2).bind fun r257 =>
  s8L1 [(g 0), x1, x2, (g 3), (g 4), (g 5), x6, x7, (g 8), (g 9), x10, x11, x12, r256.1, r257.1, (Go.Value.int Go.IntKind.i64 0), (g 16), (g 17), (g 18), (g 19), (g 20), (g 21), (g 22), (g 23), (g 24), (g 25), (g 26), (g 27), (g 28), (g 29), (g 30), (g 31), (g 32), (g 33), (g 34), (g 35), (g 36), (g 37), (g 38), (g 39), (g 40), (g 41), (g 42), (g 43), (g 44), (g 45), (g 46), (g 47), (g 48), (g 49), (g 50), (g 51), (g 52), (g 53), (g 54), (g 55), (g 56), (g 57), (g 58), (g 59), x7, x1, r256.1, x7, x2, r257.1, (g 66), (g 67), (g 68), (g 69), (g 70), (g 71), (g 72), (g 73), (g 74), (g 75), (g 76), (g 77), (g 78), (g 79), (g 80), (g 81), (g 82), (g 83), (g 84), (g 85), (g 86), (g 87), (g 88), (g 89), (g 90), (g 91), (g 92), (g 93), (g 94), (g 95), (g 96), (g 97), (g 98), (g 99), (g 100), (g 101), (g 102), (g 103), (g 104), (g 105), (g 106), (g 107), (g 108), (g 109), (g 110), (g 111), (g 112), (g 113), (g 114), (g 115), (g 116), (g 117)] [] r257.2
noncomputable def s8raw (x0 x1 x2 : Value) (w : World) : Option (Value × World) :=
  (Xcall Try.prog (Value.func (Fn.func 18) #[] #[]) #[x0] w).bind fun r230 =>
  (Qext r230.1 0).bind fun v231 =>
  (Qext r230.1 1).bind fun v232 =>
  (Qext r230.1 2).bind fun v233 =>
  (Xcall Try.prog (Value.func (Fn.func 15) #[] #[]) #[] r230.2).bind fun r234 =>
  (Qun Go.UnOp.not r234.1).bind fun v235 =>
  (guardQ v235 false (Qun Go.UnOp.not (gv (isB v235 false) v233))).bind fun v236 =>
  (Qpick v235 (Go.Value.bool true) v236).bind fun v237 =>
  condK v237 (
    some ((Go.Value.bool false), r234.2)
  ) (
    (Xcall Try.prog (Value.func (Fn.func 17) #[] #[]) #[v231] r234.2).bind fun r238 =>
    s8L0 [x0, x1, x2, undef, undef, undef, (Go.Value.bool false), v231, v232, v233, (Go.Value.slice none 0 0), r238.1, (Go.Value.int Go.IntKind.i64 0), undef, undef, undef, undef, r230.1, x0, r230.1, v231, v232, v233, r234.1, v235, v235, (gv (isB v235 false) v233), v236, v237, v231, r238.1, undef, undef, undef, undef, undef, undef, undef, undef, undef, undef, undef, undef, undef, undef, undef, undef, undef, undef, undef, undef, undef, undef, undef, undef, undef, undef, undef, undef, undef, undef, undef, undef, undef, undef, undef, undef, undef, undef, undef, undef, undef, undef, undef, undef, undef, undef, undef, undef, undef, undef, undef, undef, undef, undef, undef, undef, undef, undef, undef, undef, undef, undef, undef, undef, undef, undef, undef, undef, undef, undef, undef, undef, undef, undef, undef, undef, undef, undef, undef, undef, undef, undef, undef, undef, undef, undef, undef] [] r238.2
  )
noncomputable def s8 (x0 x1 x2 : Value) (w : World) : Option (Value × World) :=
  (Xcall Try.prog (Value.func (Fn.func 18) #[] #[]) #[x0] w).bind fun r230 =>
  (Qext r230.1 0).bind fun v231 =>
  (Qext r230.1 1).bind fun _ =>
  (Qext r230.1 2).bind fun v233 =>
  (Xcall Try.prog (Value.func (Fn.func 15) #[] #[]) #[] r230.2).bind fun r234 =>
  (Qun Go.UnOp.not r234.1).bind fun v235 =>
  (guardQ v235 false (Qun Go.UnOp.not (gv (isB v235 false) v233))).bind fun v236 =>
  (Qpick v235 (Go.Value.bool true) v236).bind fun v237 =>
  condK v237 (
    some ((Go.Value.bool false), r234.2)
  ) (
    (Xcall Try.prog (Value.func (Fn.func 17) #[] #[]) #[v231] r234.2).bind fun r238 =>
    loopR s8B0 s8R0 [x1, x2, (Go.Value.bool false), v231, (Go.Value.slice none 0 0), r238.1, (Go.Value.int Go.IntKind.i64 0)] r238.2
  )
theorem s8B2eq (x1 x2 x6 x7 x10 x11 x13 x14 x16 : Value) (w : World) (g : Nat → Value) (d : List Deferred) : evK Try.prog 8 none (nav [1, 1, 1, 1, 1, 1, 1, 1, 1, 0, 1, 0, 0] (bodyOf Try.f8)) none _ (frm 118 (setL [1, 2, 6, 7, 10, 11, 13, 14, 16] [x1, x2, x6, x7, x10, x11, x13, x14, x16] g) d) w (projK [1, 2, 6, 7, 10, 11, 13, 14, 16]) = s8B2 [x1, x2, x6, x7, x10, x11, x13, x14, x16] w := by kernel_rfl
theorem s8R2x4eq (x1 x2 x6 x7 x10 x11 x13 x14 x16 : Value) (g : Nat → Value) (w : World) : s8K5 (Exit.exit 4) (frm 118 (setL [1, 2, 6, 7, 10, 11, 13, 14, 16] [x1, x2, x6, x7, x10, x11, x13, x14, x16] g) []) w = s8R2 (Exit.exit 4) [x1, x2, x6, x7, x10, x11, x13, x14, x16] w := by kernel_rfl
theorem s8R2ret_eq (x1 x2 x6 x7 x10 x11 x13 x14 x16 : Value) (g : Nat → Value) (w : World) : s8K5 Exit.ret (frm 118 (setL [1, 2, 6, 7, 10, 11, 13, 14, 16] [x1, x2, x6, x7, x10, x11, x13, x14, x16] g) []) w = s8R2 Exit.ret [x1, x2, x6, x7, x10, x11, x13, x14, x16] w := by kernel_rfl
theorem s8R2of : ∀ (e : Exit) (xs : List Value) (w : World) (g : Nat → Value) (y : _), s8R2 e xs w = some y → s8K5 e (frm 118 (setL [1, 2, 6, 7, 10, 11, 13, 14, 16] xs g) []) w = some y := by
  intro e xs w g y h
  unfold s8R2 at h
  split at h
  · exact (s8R2x4eq _ _ _ _ _ _ _ _ _ g _).trans h
  · exact (s8R2ret_eq _ _ _ _ _ _ _ _ _ g _).trans h
  · cases h
theorem s8L2of {s0 s1 s2 s3 s4 s5 s6 s7 s8 s9 s10 s11 s12 s13 s14 s15 s16 s17 s18 s19 s20 s21 s22 s23 s24 s25 s26 s27 s28 s29 s30 s31 s32 s33 s34 s35 s36 s37 s38 s39 s40 s41 s42 s43 s44 s45 s46 s47 s48 s49 s50 s51 s52 s53 s54 s55 s56 s57 s58 s59 s60 s61 s62 s63 s64 s65 s66 s67 s68 s69 s70 s71 s72 s73 s74 s75 s76 s77 s78 s79 s80 s81 s82 s83 s84 s85 s86 s87 s88 s89 s90 s91 s92 s93 s94 s95 s96 s97 s98 s99 s100 s101 s102 s103 s104 s105 s106 s107 s108 s109 s110 s111 s112 s113 s114 s115 s116 s117 : Value} {w : World} {r : _} (h : loopR s8B2 s8R2 [s1, s2, s6, s7, s10, s11, s13, s14, s16] w = some r) : s8L2 [s0, s1, s2, s3, s4, s5, s6, s7, s8, s9, s10, s11, s12, s13, s14, s15, s16, s17, s18, s19, s20, s21, s22, s23, s24, s25, s26, s27, s28, s29, s30, s31, s32, s33, s34, s35, s36, s37, s38, s39, s40, s41, s42, s43, s44, s45, s46, s47, s48, s49, s50, s51, s52, s53, s54, s55, s56, s57, s58, s59, s60, s61, s62, s63, s64, s65, s66, s67, s68, s69, s70, s71, s72, s73, s74, s75, s76, s77, s78, s79, s80, s81, s82, s83, s84, s85, s86, s87, s88, s89, s90, s91, s92, s93, s94, s95, s96, s97, s98, s99, s100, s101, s102, s103, s104, s105, s106, s107, s108, s109, s110, s111, s112, s113, s114, s115, s116, s117] [] w = some r :=
  loopN_of (B := s8B2) (R := s8R2) (n := 118) (live := [1, 2, 6, 7, 10, 11, 13, 14, 16]) (fun xs w g y hl h => match xs, hl, h with | [x1, x2, x6, x7, x10, x11, x13, x14, x16], _, h => (s8B2eq x1 x2 x6 x7 x10 x11 x13 x14 x16 w g []).trans h) (by kernel_rfl) (s8R2of) (fun i => ([s0, s1, s2, s3, s4, s5, s6, s7, s8, s9, s10, s11, s12, s13, s14, s15, s16, s17, s18, s19, s20, s21, s22, s23, s24, s25, s26, s27, s28, s29, s30, s31, s32, s33, s34, s35, s36, s37, s38, s39, s40, s41, s42, s43, s44, s45, s46, s47, s48, s49, s50, s51, s52, s53, s54, s55, s56, s57, s58, s59, s60, s61, s62, s63, s64, s65, s66, s67, s68, s69, s70, s71, s72, s73, s74, s75, s76, s77, s78, s79, s80, s81, s82, s83, s84, s85, s86, s87, s88, s89, s90, s91, s92, s93, s94, s95, s96, s97, s98, s99, s100, s101, s102, s103, s104, s105, s106, s107, s108, s109, s110, s111, s112, s113, s114, s115, s116, s117] : List Value).getD i undef) (by kernel_rfl) rfl h
theorem s8B1eq (x1 x2 x6 x7 x10 x11 x13 x14 x15 : Value) (w : World) (g : Nat → Value) (d : List Deferred) : evK Try.prog 8 none (nav [1, 1, 1, 1, 1, 1, 1, 1, 0, 1, 0, 0] (bodyOf Try.f8)) none _ (frm 118 (setL [1, 2, 6, 7, 10, 11, 13, 14, 15] [x1, x2, x6, x7, x10, x11, x13, x14, x15] g) d) w (projK [1, 2, 6, 7, 10, 11, 13, 14, 15]) = s8B1 [x1, x2, x6, x7, x10, x11, x13, x14, x15] w := by kernel_rfl
theorem s8R1x2eq (x1 x2 x6 x7 x10 x11 x13 x14 x15 : Value) (g : Nat → Value) (w : World) : s8K3 (Exit.exit 2) (frm 118 (setL [1, 2, 6, 7, 10, 11, 13, 14, 15] [x1, x2, x6, x7, x10, x11, x13, x14, x15] g) []) w = s8R1x2raw x1 x2 x6 x7 x10 x11 x13 x14 x15 g w := by kernel_rfl
theorem s8R1ret_eq (x1 x2 x6 x7 x10 x11 x13 x14 x15 : Value) (g : Nat → Value) (w : World) : s8K3 Exit.ret (frm 118 (setL [1, 2, 6, 7, 10, 11, 13, 14, 15] [x1, x2, x6, x7, x10, x11, x13, x14, x15] g) []) w = s8R1 Exit.ret [x1, x2, x6, x7, x10, x11, x13, x14, x15] w := by kernel_rfl
theorem s8R1of : ∀ (e : Exit) (xs : List Value) (w : World) (g : Nat → Value) (y : _), s8R1 e xs w = some y → s8K3 e (frm 118 (setL [1, 2, 6, 7, 10, 11, 13, 14, 15] xs g) []) w = some y := by
  intro e xs w g y h
  unfold s8R1 at h
  split at h
  · exact (s8R1x2eq _ _ _ _ _ _ _ _ _ g _).trans ((s8L2of) h)
  · exact (s8R1ret_eq _ _ _ _ _ _ _ _ _ g _).trans h
  · cases h
theorem s8L1of {s0 s1 s2 s3 s4 s5 s6 s7 s8 s9 s10 s11 s12 s13 s14 s15 s16 s17 s18 s19 s20 s21 s22 s23 s24 s25 s26 s27 s28 s29 s30 s31 s32 s33 s34 s35 s36 s37 s38 s39 s40 s41 s42 s43 s44 s45 s46 s47 s48 s49 s50 s51 s52 s53 s54 s55 s56 s57 s58 s59 s60 s61 s62 s63 s64 s65 s66 s67 s68 s69 s70 s71 s72 s73 s74 s75 s76 s77 s78 s79 s80 s81 s82 s83 s84 s85 s86 s87 s88 s89 s90 s91 s92 s93 s94 s95 s96 s97 s98 s99 s100 s101 s102 s103 s104 s105 s106 s107 s108 s109 s110 s111 s112 s113 s114 s115 s116 s117 : Value} {w : World} {r : _} (h : loopR s8B1 s8R1 [s1, s2, s6, s7, s10, s11, s13, s14, s15] w = some r) : s8L1 [s0, s1, s2, s3, s4, s5, s6, s7, s8, s9, s10, s11, s12, s13, s14, s15, s16, s17, s18, s19, s20, s21, s22, s23, s24, s25, s26, s27, s28, s29, s30, s31, s32, s33, s34, s35, s36, s37, s38, s39, s40, s41, s42, s43, s44, s45, s46, s47, s48, s49, s50, s51, s52, s53, s54, s55, s56, s57, s58, s59, s60, s61, s62, s63, s64, s65, s66, s67, s68, s69, s70, s71, s72, s73, s74, s75, s76, s77, s78, s79, s80, s81, s82, s83, s84, s85, s86, s87, s88, s89, s90, s91, s92, s93, s94, s95, s96, s97, s98, s99, s100, s101, s102, s103, s104, s105, s106, s107, s108, s109, s110, s111, s112, s113, s114, s115, s116, s117] [] w = some r :=
  loopN_of (B := s8B1) (R := s8R1) (n := 118) (live := [1, 2, 6, 7, 10, 11, 13, 14, 15]) (fun xs w g y hl h => match xs, hl, h with | [x1, x2, x6, x7, x10, x11, x13, x14, x15], _, h => (s8B1eq x1 x2 x6 x7 x10 x11 x13 x14 x15 w g []).trans h) (by kernel_rfl) (s8R1of) (fun i => ([s0, s1, s2, s3, s4, s5, s6, s7, s8, s9, s10, s11, s12, s13, s14, s15, s16, s17, s18, s19, s20, s21, s22, s23, s24, s25, s26, s27, s28, s29, s30, s31, s32, s33, s34, s35, s36, s37, s38, s39, s40, s41, s42, s43, s44, s45, s46, s47, s48, s49, s50, s51, s52, s53, s54, s55, s56, s57, s58, s59, s60, s61, s62, s63, s64, s65, s66, s67, s68, s69, s70, s71, s72, s73, s74, s75, s76, s77, s78, s79, s80, s81, s82, s83, s84, s85, s86, s87, s88, s89, s90, s91, s92, s93, s94, s95, s96, s97, s98, s99, s100, s101, s102, s103, s104, s105, s106, s107, s108, s109, s110, s111, s112, s113, s114, s115, s116, s117] : List Value).getD i undef) (by kernel_rfl) rfl h
theorem s8B0eq (x1 x2 x6 x7 x10 x11 x12 : Value) (w : World) (g : Nat → Value) (d : List Deferred) : evK Try.prog 8 none (nav [1, 1, 1, 1, 1, 0, 1, 0, 0] (bodyOf Try.f8)) none _ (frm 118 (setL [1, 2, 6, 7, 10, 11, 12] [x1, x2, x6, x7, x10, x11, x12] g) d) w (projK [1, 2, 6, 7, 10, 11, 12]) = s8B0 [x1, x2, x6, x7, x10, x11, x12] w := by kernel_rfl
theorem s8R0x0eq (x1 x2 x6 x7 x10 x11 x12 : Value) (g : Nat → Value) (w : World) : s8K1 (Exit.exit 0) (frm 118 (setL [1, 2, 6, 7, 10, 11, 12] [x1, x2, x6, x7, x10, x11, x12] g) []) w = s8R0x0raw x1 x2 x6 x7 x10 x11 x12 g w := by kernel_rfl
theorem s8R0of : ∀ (e : Exit) (xs : List Value) (w : World) (g : Nat → Value) (y : _), s8R0 e xs w = some y → s8K1 e (frm 118 (setL [1, 2, 6, 7, 10, 11, 12] xs g) []) w = some y := by
  intro e xs w g y h
  unfold s8R0 at h
  split at h
  · exact (s8R0x0eq _ _ _ _ _ _ _ g _).trans ((Ev.bind_mono fun (r256 : Value × World) => (Ev.bind_mono fun (r257 : Value × World) => (s8L1of))) h)
  · cases h
theorem s8L0of {s0 s1 s2 s3 s4 s5 s6 s7 s8 s9 s10 s11 s12 s13 s14 s15 s16 s17 s18 s19 s20 s21 s22 s23 s24 s25 s26 s27 s28 s29 s30 s31 s32 s33 s34 s35 s36 s37 s38 s39 s40 s41 s42 s43 s44 s45 s46 s47 s48 s49 s50 s51 s52 s53 s54 s55 s56 s57 s58 s59 s60 s61 s62 s63 s64 s65 s66 s67 s68 s69 s70 s71 s72 s73 s74 s75 s76 s77 s78 s79 s80 s81 s82 s83 s84 s85 s86 s87 s88 s89 s90 s91 s92 s93 s94 s95 s96 s97 s98 s99 s100 s101 s102 s103 s104 s105 s106 s107 s108 s109 s110 s111 s112 s113 s114 s115 s116 s117 : Value} {w : World} {r : _} (h : loopR s8B0 s8R0 [s1, s2, s6, s7, s10, s11, s12] w = some r) : s8L0 [s0, s1, s2, s3, s4, s5, s6, s7, s8, s9, s10, s11, s12, s13, s14, s15, s16, s17, s18, s19, s20, s21, s22, s23, s24, s25, s26, s27, s28, s29, s30, s31, s32, s33, s34, s35, s36, s37, s38, s39, s40, s41, s42, s43, s44, s45, s46, s47, s48, s49, s50, s51, s52, s53, s54, s55, s56, s57, s58, s59, s60, s61, s62, s63, s64, s65, s66, s67, s68, s69, s70, s71, s72, s73, s74, s75, s76, s77, s78, s79, s80, s81, s82, s83, s84, s85, s86, s87, s88, s89, s90, s91, s92, s93, s94, s95, s96, s97, s98, s99, s100, s101, s102, s103, s104, s105, s106, s107, s108, s109, s110, s111, s112, s113, s114, s115, s116, s117] [] w = some r :=
  loopN_of (B := s8B0) (R := s8R0) (n := 118) (live := [1, 2, 6, 7, 10, 11, 12]) (fun xs w g y hl h => match xs, hl, h with | [x1, x2, x6, x7, x10, x11, x12], _, h => (s8B0eq x1 x2 x6 x7 x10 x11 x12 w g []).trans h) (by kernel_rfl) (s8R0of) (fun i => ([s0, s1, s2, s3, s4, s5, s6, s7, s8, s9, s10, s11, s12, s13, s14, s15, s16, s17, s18, s19, s20, s21, s22, s23, s24, s25, s26, s27, s28, s29, s30, s31, s32, s33, s34, s35, s36, s37, s38, s39, s40, s41, s42, s43, s44, s45, s46, s47, s48, s49, s50, s51, s52, s53, s54, s55, s56, s57, s58, s59, s60, s61, s62, s63, s64, s65, s66, s67, s68, s69, s70, s71, s72, s73, s74, s75, s76, s77, s78, s79, s80, s81, s82, s83, s84, s85, s86, s87, s88, s89, s90, s91, s92, s93, s94, s95, s96, s97, s98, s99, s100, s101, s102, s103, s104, s105, s106, s107, s108, s109, s110, s111, s112, s113, s114, s115, s116, s117] : List Value).getD i undef) (by kernel_rfl) rfl h
theorem s8eq (x0 x1 x2 : Value) (w : World) : evK Try.prog 8 none (bodyOf Try.f8) none _ { tmps := (([x0, x1, x2] : List Value) ++ List.replicate (118 - 3) undef).toArray, defers := [] } w (leaveK Try.prog Try.f8) = s8raw x0 x1 x2 w := by kernel_rfl
theorem c8 {x0 x1 x2 : Value} {w : World} {r : Value × World} (h : s8 x0 x1 x2 w = some r) : C Try.prog 8 #[x0, x1, x2] w = some r :=
  C_ev follows_all drawLaw (by kernel_rfl) Try.func8 (by rfl) ((s8eq x0 x1 x2 w).trans (show s8raw x0 x1 x2 w = some r from (Ev.bind_mono fun (r230 : Value × World) => (Ev.bind_mono fun (v231 : Value) => (Ev.bind_mono fun (v232 : Value) => (Ev.bind_mono fun (v233 : Value) => (Ev.bind_mono fun (r234 : Value × World) => (Ev.bind_mono fun (v235 : Value) => (Ev.bind_mono fun (v236 : Value) => (Ev.bind_mono fun (v237 : Value) => (condK_mono id (Ev.bind_mono fun (r238 : Value × World) => (s8L0of))))))))))) h))
theorem e8 {x0 x1 x2 : Value} {w : World} {Q : Value × World → Prop} (h : Brings (s8 x0 x1 x2 w) Q) : Brings (Xcall Try.prog (Value.func (Fn.func 8) #[] #[]) #[x0, x1, x2] w) Q :=
  h.call (Xcall_fn Try.func8 (by decide +kernel) (by rfl) _ _ _ w) fun _ h => c8 h

/-! lychgate/lychgatelaw12.ExpectForks -/
noncomputable def s9K0 : Exit → Act → World → Option (Value × World) := seqK (fun a w => evK Try.prog 9 none (nav [1, 1, 1, 1, 1] (bodyOf Try.f9)) none _ a w (leaveK Try.prog Try.f9)) (leaveK Try.prog Try.f9)
noncomputable def s9K1 : Exit → Act → World → Option (Value × World) := blockK 0 s9K0
noncomputable def s9L0 (s : List Value) (d : List Deferred) (w : World) : Option (Value × World) := loopN Try.prog 9 none (nav [1, 1, 1, 1, 0, 1, 0, 0] (bodyOf Try.f9)) s9K1 s d w
noncomputable def s9B0 : List Value → World → Option (Exit × List Value × World)
  | [x1, x4, x5, x6, x8, x9, x10], w =>
    (Qlen Try.prog #[35] 3 #[x1] w).bind fun v297 =>
    (Qbin Try.prog Go.BinOp.lss 3 x10 v297).bind fun v298 =>
    (guardQ v298 true (Qbin Try.prog Go.BinOp.lss 3 (gv (isB v298 true) x10) (Go.Value.int Go.IntKind.i64 40))).bind fun v299 =>
    (Qpick v298 v299 (Go.Value.bool false)).bind fun v300 =>
    condK v300 (
      (QindexAddr Try.prog 35 x1 x10 w).bind fun v301 =>
      (Qload Try.prog 39 v301 w).bind fun v302 =>
      (Xcall Try.prog (Value.func (Fn.func 27) #[] #[]) #[x8, x9, v302] w).bind fun r303 =>
      (Qun Go.UnOp.not r303.1).bind fun v304 =>
      condK v304 (
        some (Exit.ret, [x1, (Go.Value.bool false), x5, x6, x8, x9, x10], r303.2)
      ) (
        (Qbin Try.prog Go.BinOp.add 3 x10 (Go.Value.int Go.IntKind.i64 1)).bind fun v305 =>
        some (Exit.normal, [x1, x4, x5, x6, x8, x9, v305], r303.2)
      )
    ) (
      some ((Exit.exit 0), [x1, x4, x5, x6, x8, x9, x10], w)
    )
  | _, _ => none
noncomputable def s9R0 : Exit → List Value → World → Option (Value × World)
  | (Exit.exit 0), [_, _, x5, x6, x8, x9, _], w =>
    (Qbuild Try.prog 37 #[] w).bind fun v306 =>
    (Xcall Try.prog (Value.func (Fn.func 19) #[] #[]) #[x5, x6, v306, (Go.Value.int Go.IntKind.i64 0)] w).bind fun r307 =>
    (guardQ r307.1 true (Qbuild Try.prog 37 #[] r307.2)).bind fun v308 =>
    (guardX r307.1 true r307.2 (Xcall Try.prog (Value.func (Fn.func 19) #[] #[]) #[(gv (isB r307.1 true) x8), (gv (isB r307.1 true) x9), v308, (Go.Value.int Go.IntKind.i64 0)] r307.2)).bind fun r309 =>
    (Qpick r307.1 r309.1 (Go.Value.bool false)).bind fun v310 =>
    some (v310, r309.2)
  | Exit.ret, [_, x4, _, _, _, _, _], w =>
    some (x4, w)
  | _, _, _ => none
noncomputable def s9raw (x0 x1 : Value) (w : World) : Option (Value × World) :=
  (Xcall Try.prog (Value.func (Fn.func 18) #[] #[]) #[x0] w).bind fun r287 =>
  (Qext r287.1 0).bind fun v288 =>
  (Qext r287.1 1).bind fun v289 =>
  (Qext r287.1 2).bind fun v290 =>
  (Xcall Try.prog (Value.func (Fn.func 15) #[] #[]) #[] r287.2).bind fun r291 =>
  (Qun Go.UnOp.not r291.1).bind fun v292 =>
  (guardQ v292 false (Qun Go.UnOp.not (gv (isB v292 false) v290))).bind fun v293 =>
  (Qpick v292 (Go.Value.bool true) v293).bind fun v294 =>
  condK v294 (
    some ((Go.Value.bool false), r291.2)
  ) (
    (Xcall Try.prog (Value.func (Fn.func 25) #[] #[]) #[v288] r291.2).bind fun r295 =>
    (Xcall Try.prog (Value.func (Fn.func 26) #[] #[]) #[v289] r295.2).bind fun r296 =>
    s9L0 [x0, x1, undef, undef, (Go.Value.bool false), v288, v289, v290, r295.1, r296.1, (Go.Value.int Go.IntKind.i64 0), r287.1, x0, r287.1, v288, v289, v290, r291.1, v292, v292, (gv (isB v292 false) v290), v293, v294, v288, r295.1, v289, r296.1, undef, undef, undef, undef, undef, undef, undef, undef, undef, undef, undef, undef, undef, undef, undef, undef, undef, undef, undef, undef, undef, undef, undef, undef, undef, undef, undef, undef] [] r296.2
  )
noncomputable def s9 (x0 x1 : Value) (w : World) : Option (Value × World) :=
  (Xcall Try.prog (Value.func (Fn.func 18) #[] #[]) #[x0] w).bind fun r287 =>
  (Qext r287.1 0).bind fun v288 =>
  (Qext r287.1 1).bind fun v289 =>
  (Qext r287.1 2).bind fun v290 =>
  (Xcall Try.prog (Value.func (Fn.func 15) #[] #[]) #[] r287.2).bind fun r291 =>
  (Qun Go.UnOp.not r291.1).bind fun v292 =>
  (guardQ v292 false (Qun Go.UnOp.not (gv (isB v292 false) v290))).bind fun v293 =>
  (Qpick v292 (Go.Value.bool true) v293).bind fun v294 =>
  condK v294 (
    some ((Go.Value.bool false), r291.2)
  ) (
    (Xcall Try.prog (Value.func (Fn.func 25) #[] #[]) #[v288] r291.2).bind fun r295 =>
    (Xcall Try.prog (Value.func (Fn.func 26) #[] #[]) #[v289] r295.2).bind fun r296 =>
    loopR s9B0 s9R0 [x1, (Go.Value.bool false), v288, v289, r295.1, r296.1, (Go.Value.int Go.IntKind.i64 0)] r296.2
  )
theorem s9B0eq (x1 x4 x5 x6 x8 x9 x10 : Value) (w : World) (g : Nat → Value) (d : List Deferred) : evK Try.prog 9 none (nav [1, 1, 1, 1, 0, 1, 0, 0] (bodyOf Try.f9)) none _ (frm 55 (setL [1, 4, 5, 6, 8, 9, 10] [x1, x4, x5, x6, x8, x9, x10] g) d) w (projK [1, 4, 5, 6, 8, 9, 10]) = s9B0 [x1, x4, x5, x6, x8, x9, x10] w := by kernel_rfl
theorem s9R0x0eq (x1 x4 x5 x6 x8 x9 x10 : Value) (g : Nat → Value) (w : World) : s9K1 (Exit.exit 0) (frm 55 (setL [1, 4, 5, 6, 8, 9, 10] [x1, x4, x5, x6, x8, x9, x10] g) []) w = s9R0 (Exit.exit 0) [x1, x4, x5, x6, x8, x9, x10] w := by kernel_rfl
theorem s9R0ret_eq (x1 x4 x5 x6 x8 x9 x10 : Value) (g : Nat → Value) (w : World) : s9K1 Exit.ret (frm 55 (setL [1, 4, 5, 6, 8, 9, 10] [x1, x4, x5, x6, x8, x9, x10] g) []) w = s9R0 Exit.ret [x1, x4, x5, x6, x8, x9, x10] w := by kernel_rfl
theorem s9R0of : ∀ (e : Exit) (xs : List Value) (w : World) (g : Nat → Value) (y : _), s9R0 e xs w = some y → s9K1 e (frm 55 (setL [1, 4, 5, 6, 8, 9, 10] xs g) []) w = some y := by
  intro e xs w g y h
  unfold s9R0 at h
  split at h
  · exact (s9R0x0eq _ _ _ _ _ _ _ g _).trans h
  · exact (s9R0ret_eq _ _ _ _ _ _ _ g _).trans h
  · cases h
theorem s9L0of {s0 s1 s2 s3 s4 s5 s6 s7 s8 s9 s10 s11 s12 s13 s14 s15 s16 s17 s18 s19 s20 s21 s22 s23 s24 s25 s26 s27 s28 s29 s30 s31 s32 s33 s34 s35 s36 s37 s38 s39 s40 s41 s42 s43 s44 s45 s46 s47 s48 s49 s50 s51 s52 s53 s54 : Value} {w : World} {r : _} (h : loopR s9B0 s9R0 [s1, s4, s5, s6, s8, s9, s10] w = some r) : s9L0 [s0, s1, s2, s3, s4, s5, s6, s7, s8, s9, s10, s11, s12, s13, s14, s15, s16, s17, s18, s19, s20, s21, s22, s23, s24, s25, s26, s27, s28, s29, s30, s31, s32, s33, s34, s35, s36, s37, s38, s39, s40, s41, s42, s43, s44, s45, s46, s47, s48, s49, s50, s51, s52, s53, s54] [] w = some r :=
  loopN_of (B := s9B0) (R := s9R0) (n := 55) (live := [1, 4, 5, 6, 8, 9, 10]) (fun xs w g y hl h => match xs, hl, h with | [x1, x4, x5, x6, x8, x9, x10], _, h => (s9B0eq x1 x4 x5 x6 x8 x9 x10 w g []).trans h) (by kernel_rfl) (s9R0of) (fun i => ([s0, s1, s2, s3, s4, s5, s6, s7, s8, s9, s10, s11, s12, s13, s14, s15, s16, s17, s18, s19, s20, s21, s22, s23, s24, s25, s26, s27, s28, s29, s30, s31, s32, s33, s34, s35, s36, s37, s38, s39, s40, s41, s42, s43, s44, s45, s46, s47, s48, s49, s50, s51, s52, s53, s54] : List Value).getD i undef) (by kernel_rfl) rfl h
theorem s9eq (x0 x1 : Value) (w : World) : evK Try.prog 9 none (bodyOf Try.f9) none _ { tmps := (([x0, x1] : List Value) ++ List.replicate (55 - 2) undef).toArray, defers := [] } w (leaveK Try.prog Try.f9) = s9raw x0 x1 w := by kernel_rfl
theorem c9 {x0 x1 : Value} {w : World} {r : Value × World} (h : s9 x0 x1 w = some r) : C Try.prog 9 #[x0, x1] w = some r :=
  C_ev follows_all drawLaw (by kernel_rfl) Try.func9 (by rfl) ((s9eq x0 x1 w).trans (show s9raw x0 x1 w = some r from (Ev.bind_mono fun (r287 : Value × World) => (Ev.bind_mono fun (v288 : Value) => (Ev.bind_mono fun (v289 : Value) => (Ev.bind_mono fun (v290 : Value) => (Ev.bind_mono fun (r291 : Value × World) => (Ev.bind_mono fun (v292 : Value) => (Ev.bind_mono fun (v293 : Value) => (Ev.bind_mono fun (v294 : Value) => (condK_mono id (Ev.bind_mono fun (r295 : Value × World) => (Ev.bind_mono fun (r296 : Value × World) => (s9L0of)))))))))))) h))
theorem e9 {x0 x1 : Value} {w : World} {Q : Value × World → Prop} (h : Brings (s9 x0 x1 w) Q) : Brings (Xcall Try.prog (Value.func (Fn.func 9) #[] #[]) #[x0, x1] w) Q :=
  h.call (Xcall_fn Try.func9 (by decide +kernel) (by rfl) _ _ _ w) fun _ h => c9 h

/-! lychgate/lychgatelaw12.ExpectNone -/
noncomputable def s10 (x0 : Value) (w : World) : Option (Value × World) :=
  (Xbox Try.prog 39 x0 w).bind fun r311 =>
  (QfieldAddr Try.prog 39 r311.1 2).bind fun v312 =>
  (Qload Try.prog 37 v312 r311.2).bind fun v313 =>
  (QfieldAddr Try.prog 39 r311.1 3).bind fun v314 =>
  (Qload Try.prog 3 v314 r311.2).bind fun v315 =>
  (Xcall Try.prog (Value.func (Fn.func 21) #[] #[]) #[(Go.Value.pointer none), v313, v315] r311.2).bind fun r316 =>
  (Qext r316.1 0).bind fun v317 =>
  (Qext r316.1 1).bind fun v318 =>
  (Xalloc Try.prog 25 r316.2).bind fun r319 =>
  (Xstore Try.prog 25 r319.1 v317 r319.2).bind fun r320 =>
  (QfieldAddr Try.prog 39 r311.1 2).bind fun v321 =>
  (Qload Try.prog 37 v321 r320.2).bind fun v322 =>
  (QfieldAddr Try.prog 39 r311.1 3).bind fun v323 =>
  (Qload Try.prog 3 v323 r320.2).bind fun v324 =>
  (Xcall Try.prog (Value.func (Fn.func 20) #[] #[]) #[(Go.Value.pointer none), v322, v324] r320.2).bind fun r325 =>
  (Qext r325.1 0).bind fun v326 =>
  (Qext r325.1 1).bind fun v327 =>
  (Xalloc Try.prog 25 r325.2).bind fun r328 =>
  (Xstore Try.prog 25 r328.1 v326 r328.2).bind fun r329 =>
  (Xcall Try.prog (Value.func (Fn.func 15) #[] #[]) #[] r329.2).bind fun r330 =>
  (guardQ r330.1 true (QfieldAddr Try.prog 39 r311.1 1)).bind fun v331 =>
  (guardQ r330.1 true (Qload Try.prog 25 v331 r330.2)).bind fun v332 =>
  (guardX r330.1 true r330.2 (Xcall Try.prog (Value.func (Fn.func 13) #[] #[]) #[(gv (isB r330.1 true) (Go.Value.pointer none)), v332] r330.2)).bind fun r333 =>
  (guardQ r330.1 true (Qbin Try.prog Go.BinOp.eql 28 r333.1 (Go.Value.int Go.IntKind.i64 1))).bind fun v334 =>
  (Qpick r330.1 v334 (Go.Value.bool false)).bind fun v335 =>
  (guardQ v335 true (Qload Try.prog 25 r319.1 r333.2)).bind fun v336 =>
  (guardQ v335 true (Qbuild Try.prog 25 #[] r333.2)).bind fun v337 =>
  (guardQ v335 true (Qbin Try.prog Go.BinOp.eql 25 v336 v337)).bind fun v338 =>
  (Qpick v335 v338 (Go.Value.bool false)).bind fun v339 =>
  (guardQ v339 true (Qun Go.UnOp.not (gv (isB v339 true) v318))).bind fun v340 =>
  (Qpick v339 v340 (Go.Value.bool false)).bind fun v341 =>
  (guardQ v341 true (Qload Try.prog 25 r328.1 r333.2)).bind fun v342 =>
  (guardQ v341 true (Qbuild Try.prog 25 #[] r333.2)).bind fun v343 =>
  (guardQ v341 true (Qbin Try.prog Go.BinOp.eql 25 v342 v343)).bind fun v344 =>
  (Qpick v341 v344 (Go.Value.bool false)).bind fun v345 =>
  (guardQ v345 true (Qun Go.UnOp.not (gv (isB v345 true) v327))).bind fun v346 =>
  (Qpick v345 v346 (Go.Value.bool false)).bind fun v347 =>
  (guardQ v347 true (QfieldAddr Try.prog 39 r311.1 3)).bind fun v348 =>
  (guardQ v347 true (Qload Try.prog 3 v348 r333.2)).bind fun v349 =>
  (guardX v347 true r333.2 (Xcall Try.prog (Value.func (Fn.func 22) #[] #[]) #[(gv (isB v347 true) (Go.Value.pointer none)), v349] r333.2)).bind fun r350 =>
  (guardQ v347 true (Qlen Try.prog #[32] 3 #[r350.1] r350.2)).bind fun v351 =>
  (guardQ v347 true (Qbin Try.prog Go.BinOp.eql 3 v351 (Go.Value.int Go.IntKind.i64 0))).bind fun v352 =>
  (Qpick v347 v352 (Go.Value.bool false)).bind fun v353 =>
  (guardQ v353 true (QfieldAddr Try.prog 39 r311.1 3)).bind fun v354 =>
  (guardQ v353 true (Qload Try.prog 3 v354 r350.2)).bind fun v355 =>
  (guardX v353 true r350.2 (Xcall Try.prog (Value.func (Fn.func 23) #[] #[]) #[(gv (isB v353 true) (Go.Value.pointer none)), v355] r350.2)).bind fun r356 =>
  (guardQ v353 true (Qlen Try.prog #[32] 3 #[r356.1] r356.2)).bind fun v357 =>
  (guardQ v353 true (Qbin Try.prog Go.BinOp.eql 3 v357 (Go.Value.int Go.IntKind.i64 0))).bind fun v358 =>
  (Qpick v353 v358 (Go.Value.bool false)).bind fun v359 =>
  (guardX v359 true r356.2 (Xcall Try.prog (Value.func (Fn.func 17) #[] #[]) #[(gv (isB v359 true) (Go.Value.pointer none))] r356.2)).bind fun r360 =>
  (guardQ v359 true (Qlen Try.prog #[32] 3 #[r360.1] r360.2)).bind fun v361 =>
  (guardQ v359 true (Qbin Try.prog Go.BinOp.eql 3 v361 (Go.Value.int Go.IntKind.i64 0))).bind fun v362 =>
  (Qpick v359 v362 (Go.Value.bool false)).bind fun v363 =>
  (guardX v363 true r360.2 (Xcall Try.prog (Value.func (Fn.func 25) #[] #[]) #[(gv (isB v363 true) (Go.Value.pointer none))] r360.2)).bind fun r364 =>
  (guardQ v363 true (Qbin Try.prog Go.BinOp.eql 26 r364.1 (Go.Value.pointer none))).bind fun v365 =>
  (Qpick v363 v365 (Go.Value.bool false)).bind fun v366 =>
  some (v366, r364.2)
theorem s10eq (x0 : Value) (w : World) : evK Try.prog 10 none (bodyOf Try.f10) none _ { tmps := (([x0] : List Value) ++ List.replicate (79 - 1) undef).toArray, defers := [] } w (leaveK Try.prog Try.f10) = s10 x0 w := by kernel_rfl
theorem c10 {x0 : Value} {w : World} {r : Value × World} (h : s10 x0 w = some r) : C Try.prog 10 #[x0] w = some r :=
  C_ev follows_all drawLaw (by kernel_rfl) Try.func10 (by rfl) ((s10eq x0 w).trans h)
theorem e10 {x0 : Value} {w : World} {Q : Value × World → Prop} (h : Brings (s10 x0 w) Q) : Brings (Xcall Try.prog (Value.func (Fn.func 10) #[] #[]) #[x0] w) Q :=
  h.call (Xcall_fn Try.func10 (by decide +kernel) (by rfl) _ _ _ w) fun _ h => c10 h

/-! lychgate/lychgatetop.TopExpected -/
noncomputable def s11 (x0 x1 x2 : Value) (w : World) : Option (Value × World) :=
  (Xbox Try.prog 55 x0 w).bind fun r367 =>
  (QindexAddr Try.prog 55 r367.1 (Go.Value.int Go.IntKind.i64 0) r367.2.drew).bind fun v368 =>
  (Qload Try.prog 22 v368 r367.2.drew).bind fun v369 =>
  (QindexAddr Try.prog 55 r367.1 (Go.Value.int Go.IntKind.i64 1) r367.2.drew).bind fun v370 =>
  (Qload Try.prog 22 v370 r367.2.drew).bind fun v371 =>
  chkK True (
    (Xcall Try.prog (Value.func (Fn.func 12) #[] #[]) #[] r367.2.drew).bind fun r372 =>
    (Qbuild Try.prog 25 #[(0, (Go.Value.int Go.IntKind.u8 6)), (1, v369), (2, (Go.Value.int Go.IntKind.u32 5)), (4, x1), (5, (Go.Value.int Go.IntKind.u32 6)), (6, (Go.Value.int Go.IntKind.u16 7)), (7, (Go.Value.int Go.IntKind.i64 3)), (8, (Go.Value.int Go.IntKind.i64 100))] r372.2).bind fun v373 =>
    (Xalloc Try.prog 25 r372.2).bind fun r374 =>
    (Xstore Try.prog 25 r374.1 v373 r374.2).bind fun r375 =>
    (Qbin Try.prog Go.BinOp.eql 23 x1 (Go.Value.int Go.IntKind.u16 0)).bind fun v376 =>
    condK v376 (
      (Qload Try.prog 25 r374.1 r375.2).bind fun v377 =>
      (Xcall Try.prog (Value.func (Fn.func 13) #[] #[]) #[r372.1, v377] r375.2).bind fun r378 =>
      (Qbin Try.prog Go.BinOp.eql 28 r378.1 (Go.Value.int Go.IntKind.i64 2)).bind fun v379 =>
      some (v379, r378.2)
    ) (
      (Qload Try.prog 25 r374.1 r375.2).bind fun v380 =>
      (Xcall Try.prog (Value.func (Fn.func 13) #[] #[]) #[r372.1, v380] r375.2).bind fun r381 =>
      (Xcall Try.prog (Value.func (Fn.func 25) #[] #[]) #[r372.1] r381.2).bind fun r382 =>
      (Qbuild Try.prog 37 #[(0, (Go.Value.int Go.IntKind.u8 6)), (1, v371), (2, (Go.Value.int Go.IntKind.u32 5)), (3, (Go.Value.int Go.IntKind.u16 9)), (4, x1)] r382.2).bind fun v383 =>
      (Xalloc Try.prog 37 r382.2).bind fun r384 =>
      (Xstore Try.prog 37 r384.1 v383 r384.2).bind fun r385 =>
      (Qload Try.prog 37 r384.1 r385.2).bind fun v386 =>
      (Qconv Try.prog 5 3 x2).bind fun v387 =>
      (Xcall Try.prog (Value.func (Fn.func 21) #[] #[]) #[r372.1, v386, v387] r385.2).bind fun r388 =>
      (Qext r388.1 0).bind fun v389 =>
      (Qext r388.1 1).bind fun v390 =>
      (Xalloc Try.prog 25 r388.2).bind fun r391 =>
      (Xstore Try.prog 25 r391.1 v389 r391.2).bind fun r392 =>
      (Qload Try.prog 37 r384.1 r392.2).bind fun v393 =>
      (Qconv Try.prog 5 3 x2).bind fun v394 =>
      (Xcall Try.prog (Value.func (Fn.func 21) #[] #[]) #[r372.1, v393, v394] r392.2).bind fun r395 =>
      (Qext r395.1 0).bind fun v396 =>
      (Qext r395.1 1).bind fun v397 =>
      (Xalloc Try.prog 25 r395.2).bind fun r398 =>
      (Xstore Try.prog 25 r398.1 v396 r398.2).bind fun r399 =>
      (Xcall Try.prog (Value.func (Fn.func 22) #[] #[]) #[r382.1, (Go.Value.int Go.IntKind.i64 3)] r399.2).bind fun r400 =>
      (Qload Try.prog 37 r384.1 r400.2).bind fun v401 =>
      (Xcall Try.prog (Value.func (Fn.func 21) #[] #[]) #[r382.1, v401, (Go.Value.int Go.IntKind.i64 0)] r400.2).bind fun r402 =>
      (Qext r402.1 0).bind fun v403 =>
      (Qext r402.1 1).bind fun v404 =>
      (Xalloc Try.prog 25 r402.2).bind fun r405 =>
      (Xstore Try.prog 25 r405.1 v403 r405.2).bind fun r406 =>
      (Qbin Try.prog Go.BinOp.eql 22 v369 (Go.Value.int Go.IntKind.u32 0)).bind fun v407 =>
      (guardQ v407 false (Qbin Try.prog Go.BinOp.eql 22 (gv (isB v407 false) v369) (gv (isB v407 false) v371))).bind fun v408 =>
      (Qpick v407 (Go.Value.bool true) v408).bind fun v409 =>
      (guardQ v409 true (Qbin Try.prog Go.BinOp.lss 5 (gv (isB v409 true) x2) (Go.Value.int Go.IntKind.u8 100))).bind fun v410 =>
      (Qpick v409 v410 (Go.Value.bool false)).bind fun v411 =>
      (Qbin Try.prog Go.BinOp.eql 28 r381.1 (Go.Value.int Go.IntKind.i64 0)).bind fun v412 =>
      (guardQ v412 true (Qbin Try.prog Go.BinOp.eql 4 (gv (isB v412 true) v390) (gv (isB v412 true) v411))).bind fun v413 =>
      (Qpick v412 v413 (Go.Value.bool false)).bind fun v414 =>
      (guardQ v414 true (Qun Go.UnOp.not (gv (isB v414 true) v390))).bind fun v415 =>
      (guardQ (gv (isB v414 true) v415) false (Qload Try.prog 25 r391.1 r406.2)).bind fun v416 =>
      (guardQ (gv (isB v414 true) v415) false (Qload Try.prog 25 r374.1 r406.2)).bind fun v417 =>
      (guardQ (gv (isB v414 true) v415) false (Qbin Try.prog Go.BinOp.eql 25 v416 v417)).bind fun v418 =>
      (guardQ v414 true (Qpick (gv (isB v414 true) v415) (Go.Value.bool true) v418)).bind fun v419 =>
      (Qpick v414 v419 (Go.Value.bool false)).bind fun v420 =>
      (guardQ v420 true (Qun Go.UnOp.not (gv (isB v420 true) v397))).bind fun v421 =>
      (Qpick v420 v421 (Go.Value.bool false)).bind fun v422 =>
      (guardQ v422 true (Qlen Try.prog #[32] 3 #[(gv (isB v422 true) r400.1)] r406.2)).bind fun v423 =>
      (guardQ v422 true (Qbin Try.prog Go.BinOp.eql 3 v423 (Go.Value.int Go.IntKind.i64 1))).bind fun v424 =>
      (Qpick v422 v424 (Go.Value.bool false)).bind fun v425 =>
      (guardQ v425 true (Qun Go.UnOp.not (gv (isB v425 true) v404))).bind fun v426 =>
      (Qpick v425 v426 (Go.Value.bool false)).bind fun v427 =>
      some (v427, r406.2)
    )
  )
theorem s11eq (x0 x1 x2 : Value) (w : World) : evK Try.prog 11 none (bodyOf Try.f11) none _ { tmps := (([x0, x1, x2] : List Value) ++ List.replicate (108 - 3) undef).toArray, defers := [] } w (leaveK Try.prog Try.f11) = s11 x0 x1 x2 w := by kernel_rfl
theorem c11 {x0 x1 x2 : Value} {w : World} {r : Value × World} (h : s11 x0 x1 x2 w = some r) : C Try.prog 11 #[x0, x1, x2] w = some r :=
  C_ev follows_all drawLaw (by kernel_rfl) Try.func11 (by rfl) ((s11eq x0 x1 x2 w).trans h)
theorem e11 {x0 x1 x2 : Value} {w : World} {Q : Value × World → Prop} (h : Brings (s11 x0 x1 x2 w) Q) : Brings (Xcall Try.prog (Value.func (Fn.func 11) #[] #[]) #[x0, x1, x2] w) Q :=
  h.call (Xcall_fn Try.func11 (by decide +kernel) (by rfl) _ _ _ w) fun _ h => c11 h

/-! lychgate/expect.New -/
noncomputable def s12 (w : World) : Option (Value × World) :=
  (Qbuild Try.prog 58 #[] w).bind fun v428 =>
  (Xbox Try.prog 58 v428 w).bind fun r429 =>
  some (r429.1, r429.2)
theorem s12eq (w : World) : evK Try.prog 12 none (bodyOf Try.f12) none _ { tmps := (([] : List Value) ++ List.replicate (3 - 0) undef).toArray, defers := [] } w (leaveK Try.prog Try.f12) = s12  w := by kernel_rfl
theorem c12 {w : World} {r : Value × World} (h : s12  w = some r) : C Try.prog 12 #[] w = some r :=
  C_ev follows_all drawLaw (by kernel_rfl) Try.func12 (by rfl) ((s12eq  w).trans h)
theorem e12 {w : World} {Q : Value × World → Prop} (h : Brings (s12  w) Q) : Brings (Xcall Try.prog (Value.func (Fn.func 12) #[] #[]) #[] w) Q :=
  h.call (Xcall_fn Try.func12 (by decide +kernel) (by rfl) _ _ _ w) fun _ h => c12 h

/-! (*lychgate/expect.Book).Add -/
noncomputable def s13K0 : Exit → Act → World → Option (Value × World) := seqK (fun a w => evK Try.prog 13 none (nav [1, 1] (bodyOf Try.f13)) none _ a w (leaveK Try.prog Try.f13)) (leaveK Try.prog Try.f13)
noncomputable def s13J0 (s : List Value) (d : List Deferred) (w : World) : Option (Value × World) := s13K0 .normal ⟨s.toArray, d⟩ w
noncomputable def s13K1 : Exit → Act → World → Option (Value × World) := seqK (fun a w => evK Try.prog 13 none (nav [1, 1, 1, 1, 1] (bodyOf Try.f13)) none _ a w (leaveK Try.prog Try.f13)) (leaveK Try.prog Try.f13)
noncomputable def s13K2 : Exit → Act → World → Option (Value × World) := blockK 0 s13K1
noncomputable def s13J1 (s : List Value) (d : List Deferred) (w : World) : Option (Value × World) := s13K2 .normal ⟨s.toArray, d⟩ w
noncomputable def s13M1 (s0 s3 : Value) (w : World) : Option (Value × World) :=
  (Qnil s0).bind fun v455 =>
  (QfieldAddr Try.prog 58 v455 0).bind fun v456 =>
  (Qload Try.prog 32 v456 w.drew).bind fun v457 =>
  (Qload Try.prog 25 s3 w.drew).bind fun v458 =>
  (XbuildSlice Try.prog 32 1 #[(0, v458)] w.drew).bind fun r459 =>
  (Xbi Try.prog Go.Builtin.append #[32, 32] 32 #[v457, r459.1] r459.2).bind fun r460 =>
  (Qnil s0).bind fun v461 =>
  (QfieldAddr Try.prog 58 v461 0).bind fun v462 =>
  (Xstore Try.prog 32 v462 r460.1 r460.2).bind fun r463 =>
  chkK ((Qload Try.prog 32 v456 w.drew = some v457 ∧ Qload Try.prog 32 v456 r459.2 = some v457) ∧ True) (
    some ((Go.Value.int Go.IntKind.i64 0), r463.2)
  )
noncomputable def s13M0raw (s0 s1 s2 s3 s4 _s5 _s6 _s7 s8 s9 _s10 _s11 _s12 _s13 _s14 _s15 _s16 _s17 _s18 _s19 _s20 _s21 _s22 _s23 _s24 _s25 _s26 _s27 _s28 _s29 _s30 _s31 _s32 _s33 _s34 _s35 _s36 _s37 _s38 _s39 _s40 _s41 _s42 s43 s44 s45 s46 s47 s48 s49 s50 s51 s52 : Value) (w : World) : Option (Value × World) :=
  (some (Value.func (Go.Fn.func 28) #[] #[s3])).bind fun v432 =>
  (Qnil s0).bind fun v433 =>
  (QfieldAddr Try.prog 58 v433 0).bind fun v434 =>
  (Qload Try.prog 32 v434 w).bind fun v435 =>
  (some (Value.func (Go.Fn.func 30) #[] #[s3])).bind fun v436 =>
  (Xcall Try.prog (Value.func (Fn.func 29) #[] #[]) #[v435, v436] w).bind fun r437 =>
  (Qext r437.1 0).bind fun v438 =>
  (Qext r437.1 1).bind fun v439 =>
  (Qload Try.prog 25 s3 r437.2).bind fun v440 =>
  (Xcall Try.prog (Value.func (Fn.func 14) #[] #[]) #[v440] r437.2).bind fun r441 =>
  (Qun Go.UnOp.not r441.1).bind fun v442 =>
  condK v442 (
    some ((Go.Value.int Go.IntKind.i64 2), r441.2)
  ) (
    (Qnil s0).bind fun v443 =>
    (QfieldAddr Try.prog 58 v443 0).bind fun v444 =>
    (Qload Try.prog 32 v444 r441.2).bind fun v445 =>
    (Xcall Try.prog (Value.func (Fn.func 31) #[] #[]) #[v445, v432] r441.2).bind fun r446 =>
    condK r446.1 (
      some ((Go.Value.int Go.IntKind.i64 10), r446.2)
    ) (
      (Qnil s0).bind fun v447 =>
      (QfieldAddr Try.prog 58 v447 0).bind fun v448 =>
      (Qload Try.prog 32 v448 r446.2).bind fun v449 =>
      (Qlen Try.prog #[32] 3 #[v449] r446.2).bind fun v450 =>
      (Qbin Try.prog Go.BinOp.geq 3 v450 (Go.Value.int Go.IntKind.i64 32)).bind fun v451 =>
      (guardQ v451 false (Qlen Try.prog #[32] 3 #[(gv (isB v451 false) v438)] r446.2)).bind fun v452 =>
      (guardQ v451 false (Qbin Try.prog Go.BinOp.geq 3 v452 (Go.Value.int Go.IntKind.i64 4))).bind fun v453 =>
      (Qpick v451 (Go.Value.bool true) v453).bind fun v454 =>
      condK v454 (
        some ((Go.Value.int Go.IntKind.i64 9), r446.2)
      ) (
        s13J1 [s0, s1, s2, s3, s4, v432, v438, v439, s8, s9, v432, r437.1, s0, v433, v434, v435, v436, r437.1, v438, v439, v442, v440, r441.1, v442, r446.1, s0, v443, v444, v445, v432, r446.1, v454, s0, v447, v448, v449, v450, v451, v451, (gv (isB v451 false) v438), v452, v453, v454, s43, s44, s45, s46, s47, s48, s49, s50, s51, s52] [] r446.2
      )
    )
  )
noncomputable def s13M0 (s0 s3 : Value) (w : World) : Option (Value × World) :=
  (some (Value.func (Go.Fn.func 28) #[] #[s3])).bind fun v432 =>
  (Qnil s0).bind fun v433 =>
  (QfieldAddr Try.prog 58 v433 0).bind fun v434 =>
  (Qload Try.prog 32 v434 w).bind fun v435 =>
  (some (Value.func (Go.Fn.func 30) #[] #[s3])).bind fun v436 =>
  (Xcall Try.prog (Value.func (Fn.func 29) #[] #[]) #[v435, v436] w).bind fun r437 =>
  (Qext r437.1 0).bind fun v438 =>
  (Qext r437.1 1).bind fun _ =>
  (Qload Try.prog 25 s3 r437.2).bind fun v440 =>
  (Xcall Try.prog (Value.func (Fn.func 14) #[] #[]) #[v440] r437.2).bind fun r441 =>
  (Qun Go.UnOp.not r441.1).bind fun v442 =>
  condK v442 (
    some ((Go.Value.int Go.IntKind.i64 2), r441.2)
  ) (
    (Qnil s0).bind fun v443 =>
    (QfieldAddr Try.prog 58 v443 0).bind fun v444 =>
    (Qload Try.prog 32 v444 r441.2).bind fun v445 =>
    (Xcall Try.prog (Value.func (Fn.func 31) #[] #[]) #[v445, v432] r441.2).bind fun r446 =>
    condK r446.1 (
      some ((Go.Value.int Go.IntKind.i64 10), r446.2)
    ) (
      (Qnil s0).bind fun v447 =>
      (QfieldAddr Try.prog 58 v447 0).bind fun v448 =>
      (Qload Try.prog 32 v448 r446.2).bind fun v449 =>
      (Qlen Try.prog #[32] 3 #[v449] r446.2).bind fun v450 =>
      (Qbin Try.prog Go.BinOp.geq 3 v450 (Go.Value.int Go.IntKind.i64 32)).bind fun v451 =>
      (guardQ v451 false (Qlen Try.prog #[32] 3 #[(gv (isB v451 false) v438)] r446.2)).bind fun v452 =>
      (guardQ v451 false (Qbin Try.prog Go.BinOp.geq 3 v452 (Go.Value.int Go.IntKind.i64 4))).bind fun v453 =>
      (Qpick v451 (Go.Value.bool true) v453).bind fun v454 =>
      condK v454 (
        some ((Go.Value.int Go.IntKind.i64 9), r446.2)
      ) (
        s13M1 s0 s3 r446.2
      )
    )
  )
noncomputable def s13raw (x0 x1 : Value) (w : World) : Option (Value × World) :=
  (Xbox Try.prog 25 x1 w).bind fun r430 =>
  (Qbin Try.prog Go.BinOp.eql 26 x0 (Go.Value.pointer none)).bind fun v431 =>
  condK v431 (
    some ((Go.Value.int Go.IntKind.i64 1), r430.2)
  ) (
    s13J0 [x0, x1, undef, r430.1, (Go.Value.int Go.IntKind.i64 0), undef, undef, undef, x0, v431, undef, undef, undef, undef, undef, undef, undef, undef, undef, undef, undef, undef, undef, undef, undef, undef, undef, undef, undef, undef, undef, undef, undef, undef, undef, undef, undef, undef, undef, undef, undef, undef, undef, undef, undef, undef, undef, undef, undef, undef, undef, undef, undef] [] r430.2
  )
noncomputable def s13 (x0 x1 : Value) (w : World) : Option (Value × World) :=
  (Xbox Try.prog 25 x1 w).bind fun r430 =>
  (Qbin Try.prog Go.BinOp.eql 26 x0 (Go.Value.pointer none)).bind fun v431 =>
  condK v431 (
    some ((Go.Value.int Go.IntKind.i64 1), r430.2)
  ) (
    s13M0 x0 r430.1 r430.2
  )
theorem s13J1eq (s0 s1 s2 s3 s4 s5 s6 s7 s8 s9 s10 s11 s12 s13 s14 s15 s16 s17 s18 s19 s20 s21 s22 s23 s24 s25 s26 s27 s28 s29 s30 s31 s32 s33 s34 s35 s36 s37 s38 s39 s40 s41 s42 s43 s44 s45 s46 s47 s48 s49 s50 s51 s52 : Value) (w : World) : s13J1 [s0, s1, s2, s3, s4, s5, s6, s7, s8, s9, s10, s11, s12, s13, s14, s15, s16, s17, s18, s19, s20, s21, s22, s23, s24, s25, s26, s27, s28, s29, s30, s31, s32, s33, s34, s35, s36, s37, s38, s39, s40, s41, s42, s43, s44, s45, s46, s47, s48, s49, s50, s51, s52] [] w = s13M1 s0 s3 w := (show s13J1 [s0, s1, s2, s3, s4, s5, s6, s7, s8, s9, s10, s11, s12, s13, s14, s15, s16, s17, s18, s19, s20, s21, s22, s23, s24, s25, s26, s27, s28, s29, s30, s31, s32, s33, s34, s35, s36, s37, s38, s39, s40, s41, s42, s43, s44, s45, s46, s47, s48, s49, s50, s51, s52] [] w = evK Try.prog 13 none (nav [1, 1, 1, 1, 1] (bodyOf Try.f13)) none _ ⟨[s0, s1, s2, s3, s4, s5, s6, s7, s8, s9, s10, s11, s12, s13, s14, s15, s16, s17, s18, s19, s20, s21, s22, s23, s24, s25, s26, s27, s28, s29, s30, s31, s32, s33, s34, s35, s36, s37, s38, s39, s40, s41, s42, s43, s44, s45, s46, s47, s48, s49, s50, s51, s52].toArray, []⟩ w (leaveK Try.prog Try.f13) from by kernel_rfl).trans (by kernel_rfl)
theorem s13J1of {s0 s1 s2 s3 s4 s5 s6 s7 s8 s9 s10 s11 s12 s13 s14 s15 s16 s17 s18 s19 s20 s21 s22 s23 s24 s25 s26 s27 s28 s29 s30 s31 s32 s33 s34 s35 s36 s37 s38 s39 s40 s41 s42 s43 s44 s45 s46 s47 s48 s49 s50 s51 s52 : Value} {w : World} {r : _} (h : s13M1 s0 s3 w = some r) : s13J1 [s0, s1, s2, s3, s4, s5, s6, s7, s8, s9, s10, s11, s12, s13, s14, s15, s16, s17, s18, s19, s20, s21, s22, s23, s24, s25, s26, s27, s28, s29, s30, s31, s32, s33, s34, s35, s36, s37, s38, s39, s40, s41, s42, s43, s44, s45, s46, s47, s48, s49, s50, s51, s52] [] w = some r :=
  ((s13J1eq s0 s1 s2 s3 s4 s5 s6 s7 s8 s9 s10 s11 s12 s13 s14 s15 s16 s17 s18 s19 s20 s21 s22 s23 s24 s25 s26 s27 s28 s29 s30 s31 s32 s33 s34 s35 s36 s37 s38 s39 s40 s41 s42 s43 s44 s45 s46 s47 s48 s49 s50 s51 s52 w).trans h)
theorem s13J0eq (s0 s1 s2 s3 s4 s5 s6 s7 s8 s9 s10 s11 s12 s13 s14 s15 s16 s17 s18 s19 s20 s21 s22 s23 s24 s25 s26 s27 s28 s29 s30 s31 s32 s33 s34 s35 s36 s37 s38 s39 s40 s41 s42 s43 s44 s45 s46 s47 s48 s49 s50 s51 s52 : Value) (w : World) : s13J0 [s0, s1, s2, s3, s4, s5, s6, s7, s8, s9, s10, s11, s12, s13, s14, s15, s16, s17, s18, s19, s20, s21, s22, s23, s24, s25, s26, s27, s28, s29, s30, s31, s32, s33, s34, s35, s36, s37, s38, s39, s40, s41, s42, s43, s44, s45, s46, s47, s48, s49, s50, s51, s52] [] w = s13M0raw s0 s1 s2 s3 s4 s5 s6 s7 s8 s9 s10 s11 s12 s13 s14 s15 s16 s17 s18 s19 s20 s21 s22 s23 s24 s25 s26 s27 s28 s29 s30 s31 s32 s33 s34 s35 s36 s37 s38 s39 s40 s41 s42 s43 s44 s45 s46 s47 s48 s49 s50 s51 s52 w := (show s13J0 [s0, s1, s2, s3, s4, s5, s6, s7, s8, s9, s10, s11, s12, s13, s14, s15, s16, s17, s18, s19, s20, s21, s22, s23, s24, s25, s26, s27, s28, s29, s30, s31, s32, s33, s34, s35, s36, s37, s38, s39, s40, s41, s42, s43, s44, s45, s46, s47, s48, s49, s50, s51, s52] [] w = evK Try.prog 13 none (nav [1, 1] (bodyOf Try.f13)) none _ ⟨[s0, s1, s2, s3, s4, s5, s6, s7, s8, s9, s10, s11, s12, s13, s14, s15, s16, s17, s18, s19, s20, s21, s22, s23, s24, s25, s26, s27, s28, s29, s30, s31, s32, s33, s34, s35, s36, s37, s38, s39, s40, s41, s42, s43, s44, s45, s46, s47, s48, s49, s50, s51, s52].toArray, []⟩ w (leaveK Try.prog Try.f13) from by kernel_rfl).trans (by kernel_rfl)
theorem s13J0of {s0 s1 s2 s3 s4 s5 s6 s7 s8 s9 s10 s11 s12 s13 s14 s15 s16 s17 s18 s19 s20 s21 s22 s23 s24 s25 s26 s27 s28 s29 s30 s31 s32 s33 s34 s35 s36 s37 s38 s39 s40 s41 s42 s43 s44 s45 s46 s47 s48 s49 s50 s51 s52 : Value} {w : World} {r : _} (h : s13M0 s0 s3 w = some r) : s13J0 [s0, s1, s2, s3, s4, s5, s6, s7, s8, s9, s10, s11, s12, s13, s14, s15, s16, s17, s18, s19, s20, s21, s22, s23, s24, s25, s26, s27, s28, s29, s30, s31, s32, s33, s34, s35, s36, s37, s38, s39, s40, s41, s42, s43, s44, s45, s46, s47, s48, s49, s50, s51, s52] [] w = some r :=
  ((s13J0eq s0 s1 s2 s3 s4 s5 s6 s7 s8 s9 s10 s11 s12 s13 s14 s15 s16 s17 s18 s19 s20 s21 s22 s23 s24 s25 s26 s27 s28 s29 s30 s31 s32 s33 s34 s35 s36 s37 s38 s39 s40 s41 s42 s43 s44 s45 s46 s47 s48 s49 s50 s51 s52 w).trans ((Ev.bind_mono fun (v432 : Value) => (Ev.bind_mono fun (v433 : Value) => (Ev.bind_mono fun (v434 : Value) => (Ev.bind_mono fun (v435 : Value) => (Ev.bind_mono fun (v436 : Value) => (Ev.bind_mono fun (r437 : Value × World) => (Ev.bind_mono fun (v438 : Value) => (Ev.bind_mono fun (v439 : Value) => (Ev.bind_mono fun (v440 : Value) => (Ev.bind_mono fun (r441 : Value × World) => (Ev.bind_mono fun (v442 : Value) => (condK_mono id (Ev.bind_mono fun (v443 : Value) => (Ev.bind_mono fun (v444 : Value) => (Ev.bind_mono fun (v445 : Value) => (Ev.bind_mono fun (r446 : Value × World) => (condK_mono id (Ev.bind_mono fun (v447 : Value) => (Ev.bind_mono fun (v448 : Value) => (Ev.bind_mono fun (v449 : Value) => (Ev.bind_mono fun (v450 : Value) => (Ev.bind_mono fun (v451 : Value) => (Ev.bind_mono fun (v452 : Value) => (Ev.bind_mono fun (v453 : Value) => (Ev.bind_mono fun (v454 : Value) => (condK_mono id (s13J1of))))))))))))))))))))))))))) h))
theorem s13eq (x0 x1 : Value) (w : World) : evK Try.prog 13 none (bodyOf Try.f13) none _ { tmps := (([x0, x1] : List Value) ++ List.replicate (53 - 2) undef).toArray, defers := [] } w (leaveK Try.prog Try.f13) = s13raw x0 x1 w := by kernel_rfl
theorem c13 {x0 x1 : Value} {w : World} {r : Value × World} (h : s13 x0 x1 w = some r) : C Try.prog 13 #[x0, x1] w = some r :=
  C_ev follows_all drawLaw (by kernel_rfl) Try.func13 (by rfl) ((s13eq x0 x1 w).trans (show s13raw x0 x1 w = some r from (Ev.bind_mono fun (r430 : Value × World) => (Ev.bind_mono fun (v431 : Value) => (condK_mono id (s13J0of)))) h))
theorem e13 {x0 x1 : Value} {w : World} {Q : Value × World → Prop} (h : Brings (s13 x0 x1 w) Q) : Brings (Xcall Try.prog (Value.func (Fn.func 13) #[] #[]) #[x0, x1] w) Q :=
  h.call (Xcall_fn Try.func13 (by decide +kernel) (by rfl) _ _ _ w) fun _ h => c13 h

/-! lychgate/expect.Right -/
noncomputable def s14 (x0 : Value) (w : World) : Option (Value × World) :=
  (Xbox Try.prog 25 x0 w).bind fun r464 =>
  (XbuildSlice Try.prog 63 3 #[(0, (Go.Value.int Go.IntKind.u8 6)), (1, (Go.Value.int Go.IntKind.u8 17)), (2, (Go.Value.int Go.IntKind.u8 47))] r464.2).bind fun r465 =>
  (QfieldAddr Try.prog 25 r464.1 0).bind fun v466 =>
  (Qload Try.prog 5 v466 r465.2).bind fun v467 =>
  (Xcall Try.prog (Value.func (Fn.func 32) #[] #[]) #[r465.1, v467] r465.2).bind fun r468 =>
  (QfieldAddr Try.prog 25 r464.1 2).bind fun v469 =>
  (Qload Try.prog 22 v469 r468.2).bind fun v470 =>
  (Qbin Try.prog Go.BinOp.neq 22 v470 (Go.Value.int Go.IntKind.u32 0)).bind fun v471 =>
  (guardQ v471 true (QfieldAddr Try.prog 25 r464.1 5)).bind fun v472 =>
  (guardQ v471 true (Qload Try.prog 22 v472 r468.2)).bind fun v473 =>
  (guardQ v471 true (Qbin Try.prog Go.BinOp.neq 22 v473 (Go.Value.int Go.IntKind.u32 0))).bind fun v474 =>
  (Qpick v471 v474 (Go.Value.bool false)).bind fun v475 =>
  (guardQ v475 true (QfieldAddr Try.prog 25 r464.1 4)).bind fun v476 =>
  (guardQ v475 true (Qload Try.prog 23 v476 r468.2)).bind fun v477 =>
  (guardQ v475 true (Qbin Try.prog Go.BinOp.neq 23 v477 (Go.Value.int Go.IntKind.u16 0))).bind fun v478 =>
  (Qpick v475 v478 (Go.Value.bool false)).bind fun v479 =>
  (guardQ v479 true (QfieldAddr Try.prog 25 r464.1 6)).bind fun v480 =>
  (guardQ v479 true (Qload Try.prog 23 v480 r468.2)).bind fun v481 =>
  (guardQ v479 true (Qbin Try.prog Go.BinOp.neq 23 v481 (Go.Value.int Go.IntKind.u16 0))).bind fun v482 =>
  (Qpick v479 v482 (Go.Value.bool false)).bind fun v483 =>
  (Qpick r468.1 (gv (isB r468.1 true) v483) (Go.Value.bool false)).bind fun v484 =>
  (guardQ v484 true (QfieldAddr Try.prog 25 r464.1 7)).bind fun v485 =>
  (guardQ v484 true (Qload Try.prog 3 v485 r468.2)).bind fun v486 =>
  (guardQ v484 true (Qbin Try.prog Go.BinOp.geq 3 v486 (Go.Value.int Go.IntKind.i64 0))).bind fun v487 =>
  (Qpick v484 v487 (Go.Value.bool false)).bind fun v488 =>
  (guardQ v488 true (QfieldAddr Try.prog 25 r464.1 8)).bind fun v489 =>
  (guardQ v488 true (Qload Try.prog 3 v489 r468.2)).bind fun v490 =>
  (guardQ v488 true (Qbin Try.prog Go.BinOp.geq 3 v490 (Go.Value.int Go.IntKind.i64 0))).bind fun v491 =>
  (Qpick v488 v491 (Go.Value.bool false)).bind fun v492 =>
  (guardQ v492 true (QfieldAddr Try.prog 25 r464.1 8)).bind fun v493 =>
  (guardQ v492 true (Qload Try.prog 3 v493 r468.2)).bind fun v494 =>
  (guardQ v492 true (Qbin Try.prog Go.BinOp.leq 3 v494 (Go.Value.int Go.IntKind.i64 1099511627776))).bind fun v495 =>
  (Qpick v492 v495 (Go.Value.bool false)).bind fun v496 =>
  (guardQ v496 true (QfieldAddr Try.prog 25 r464.1 0)).bind fun v497 =>
  (guardQ v496 true (Qload Try.prog 5 v497 r468.2)).bind fun v498 =>
  (guardQ v496 true (Qbin Try.prog Go.BinOp.eql 5 v498 (Go.Value.int Go.IntKind.u8 47))).bind fun v499 =>
  (guardQ (gv (isB v496 true) v499) false (QfieldAddr Try.prog 25 r464.1 3)).bind fun v500 =>
  (guardQ (gv (isB v496 true) v499) false (Qload Try.prog 23 v500 r468.2)).bind fun v501 =>
  (guardQ (gv (isB v496 true) v499) false (Qbin Try.prog Go.BinOp.eql 23 v501 (Go.Value.int Go.IntKind.u16 0))).bind fun v502 =>
  (guardQ v496 true (Qpick (gv (isB v496 true) v499) (Go.Value.bool true) v502)).bind fun v503 =>
  (Qpick v496 v503 (Go.Value.bool false)).bind fun v504 =>
  some (v504, r468.2)
theorem s14eq (x0 : Value) (w : World) : evK Try.prog 14 none (bodyOf Try.f14) none _ { tmps := (([x0] : List Value) ++ List.replicate (56 - 1) undef).toArray, defers := [] } w (leaveK Try.prog Try.f14) = s14 x0 w := by kernel_rfl
theorem c14 {x0 : Value} {w : World} {r : Value × World} (h : s14 x0 w = some r) : C Try.prog 14 #[x0] w = some r :=
  C_ev follows_all drawLaw (by kernel_rfl) Try.func14 (by rfl) ((s14eq x0 w).trans h)
theorem e14 {x0 : Value} {w : World} {Q : Value × World → Prop} (h : Brings (s14 x0 w) Q) : Brings (Xcall Try.prog (Value.func (Fn.func 14) #[] #[]) #[x0] w) Q :=
  h.call (Xcall_fn Try.func14 (by decide +kernel) (by rfl) _ _ _ w) fun _ h => c14 h

/-! lychgate/lychgatelaw12.live -/
noncomputable def s15 (w : World) : Option (Value × World) :=
  (Xcall Try.prog (Value.func (Fn.func 12) #[] #[]) #[] w).bind fun r505 =>
  (Qbuild Try.prog 25 #[(0, (Go.Value.int Go.IntKind.u8 6)), (2, (Go.Value.int Go.IntKind.u32 7)), (4, (Go.Value.int Go.IntKind.u16 9)), (5, (Go.Value.int Go.IntKind.u32 5)), (6, (Go.Value.int Go.IntKind.u16 1)), (8, (Go.Value.int Go.IntKind.i64 10))] r505.2).bind fun v506 =>
  (Xcall Try.prog (Value.func (Fn.func 13) #[] #[]) #[r505.1, v506] r505.2).bind fun r507 =>
  (Qbuild Try.prog 37 #[(0, (Go.Value.int Go.IntKind.u8 6)), (1, (Go.Value.int Go.IntKind.u32 3)), (2, (Go.Value.int Go.IntKind.u32 7)), (4, (Go.Value.int Go.IntKind.u16 9))] r507.2).bind fun v508 =>
  (Xcall Try.prog (Value.func (Fn.func 21) #[] #[]) #[r505.1, v508, (Go.Value.int Go.IntKind.i64 9)] r507.2).bind fun r509 =>
  (Qext r509.1 0).bind fun v510 =>
  (Qext r509.1 1).bind fun v511 =>
  (Xalloc Try.prog 25 r509.2).bind fun r512 =>
  (Xstore Try.prog 25 r512.1 v510 r512.2).bind fun r513 =>
  (Qbin Try.prog Go.BinOp.eql 28 r507.1 (Go.Value.int Go.IntKind.i64 0)).bind fun v514 =>
  (Qpick v514 (gv (isB v514 true) v511) (Go.Value.bool false)).bind fun v515 =>
  (guardQ v515 true (QfieldAddr Try.prog 25 r512.1 5)).bind fun v516 =>
  (guardQ v515 true (Qload Try.prog 22 v516 r513.2)).bind fun v517 =>
  (guardQ v515 true (Qbin Try.prog Go.BinOp.eql 22 v517 (Go.Value.int Go.IntKind.u32 5))).bind fun v518 =>
  (Qpick v515 v518 (Go.Value.bool false)).bind fun v519 =>
  (guardX v519 true r513.2 (Xcall Try.prog (Value.func (Fn.func 17) #[] #[]) #[(gv (isB v519 true) r505.1)] r513.2)).bind fun r520 =>
  (guardQ v519 true (Qlen Try.prog #[32] 3 #[r520.1] r520.2)).bind fun v521 =>
  (guardQ v519 true (Qbin Try.prog Go.BinOp.eql 3 v521 (Go.Value.int Go.IntKind.i64 0))).bind fun v522 =>
  (Qpick v519 v522 (Go.Value.bool false)).bind fun v523 =>
  some (v523, r520.2)
theorem s15eq (w : World) : evK Try.prog 15 none (bodyOf Try.f15) none _ { tmps := (([] : List Value) ++ List.replicate (31 - 0) undef).toArray, defers := [] } w (leaveK Try.prog Try.f15) = s15  w := by kernel_rfl
theorem c15 {w : World} {r : Value × World} (h : s15  w = some r) : C Try.prog 15 #[] w = some r :=
  C_ev follows_all drawLaw (by kernel_rfl) Try.func15 (by rfl) ((s15eq  w).trans h)
theorem e15 {w : World} {Q : Value × World → Prop} (h : Brings (s15  w) Q) : Brings (Xcall Try.prog (Value.func (Fn.func 15) #[] #[]) #[] w) Q :=
  h.call (Xcall_fn Try.func15 (by decide +kernel) (by rfl) _ _ _ w) fun _ h => c15 h

/-! lychgate/lychgateref12.Right -/
noncomputable def s16 (x0 : Value) (w : World) : Option (Value × World) :=
  (Xbox Try.prog 25 x0 w).bind fun r524 =>
  (QfieldAddr Try.prog 25 r524.1 0).bind fun v525 =>
  (Qload Try.prog 5 v525 r524.2).bind fun v526 =>
  (Qbin Try.prog Go.BinOp.neq 5 v526 (Go.Value.int Go.IntKind.u8 6)).bind fun v527 =>
  (guardQ v527 true (QfieldAddr Try.prog 25 r524.1 0)).bind fun v528 =>
  (guardQ v527 true (Qload Try.prog 5 v528 r524.2)).bind fun v529 =>
  (guardQ v527 true (Qbin Try.prog Go.BinOp.neq 5 v529 (Go.Value.int Go.IntKind.u8 17))).bind fun v530 =>
  (Qpick v527 v530 (Go.Value.bool false)).bind fun v531 =>
  (guardQ v531 true (QfieldAddr Try.prog 25 r524.1 0)).bind fun v532 =>
  (guardQ v531 true (Qload Try.prog 5 v532 r524.2)).bind fun v533 =>
  (guardQ v531 true (Qbin Try.prog Go.BinOp.neq 5 v533 (Go.Value.int Go.IntKind.u8 47))).bind fun v534 =>
  (Qpick v531 v534 (Go.Value.bool false)).bind fun v535 =>
  (guardQ v535 false (QfieldAddr Try.prog 25 r524.1 2)).bind fun v536 =>
  (guardQ v535 false (Qload Try.prog 22 v536 r524.2)).bind fun v537 =>
  (guardQ v535 false (Qbin Try.prog Go.BinOp.eql 22 v537 (Go.Value.int Go.IntKind.u32 0))).bind fun v538 =>
  (Qpick v535 (Go.Value.bool true) v538).bind fun v539 =>
  (guardQ v539 false (QfieldAddr Try.prog 25 r524.1 5)).bind fun v540 =>
  (guardQ v539 false (Qload Try.prog 22 v540 r524.2)).bind fun v541 =>
  (guardQ v539 false (Qbin Try.prog Go.BinOp.eql 22 v541 (Go.Value.int Go.IntKind.u32 0))).bind fun v542 =>
  (Qpick v539 (Go.Value.bool true) v542).bind fun v543 =>
  (guardQ v543 false (QfieldAddr Try.prog 25 r524.1 4)).bind fun v544 =>
  (guardQ v543 false (Qload Try.prog 23 v544 r524.2)).bind fun v545 =>
  (guardQ v543 false (Qbin Try.prog Go.BinOp.eql 23 v545 (Go.Value.int Go.IntKind.u16 0))).bind fun v546 =>
  (Qpick v543 (Go.Value.bool true) v546).bind fun v547 =>
  (guardQ v547 false (QfieldAddr Try.prog 25 r524.1 6)).bind fun v548 =>
  (guardQ v547 false (Qload Try.prog 23 v548 r524.2)).bind fun v549 =>
  (guardQ v547 false (Qbin Try.prog Go.BinOp.eql 23 v549 (Go.Value.int Go.IntKind.u16 0))).bind fun v550 =>
  (Qpick v547 (Go.Value.bool true) v550).bind fun v551 =>
  condK v551 (
    some ((Go.Value.bool false), r524.2)
  ) (
    (QfieldAddr Try.prog 25 r524.1 7).bind fun v552 =>
    (Qload Try.prog 3 v552 r524.2).bind fun v553 =>
    (Qbin Try.prog Go.BinOp.geq 3 v553 (Go.Value.int Go.IntKind.i64 0)).bind fun v554 =>
    (guardQ v554 true (QfieldAddr Try.prog 25 r524.1 8)).bind fun v555 =>
    (guardQ v554 true (Qload Try.prog 3 v555 r524.2)).bind fun v556 =>
    (guardQ v554 true (Qbin Try.prog Go.BinOp.geq 3 v556 (Go.Value.int Go.IntKind.i64 0))).bind fun v557 =>
    (Qpick v554 v557 (Go.Value.bool false)).bind fun v558 =>
    (guardQ v558 true (QfieldAddr Try.prog 25 r524.1 8)).bind fun v559 =>
    (guardQ v558 true (Qload Try.prog 3 v559 r524.2)).bind fun v560 =>
    (guardQ v558 true (Qbin Try.prog Go.BinOp.leq 3 v560 (Go.Value.int Go.IntKind.i64 1099511627776))).bind fun v561 =>
    (Qpick v558 v561 (Go.Value.bool false)).bind fun v562 =>
    (guardQ v562 true (QfieldAddr Try.prog 25 r524.1 3)).bind fun v563 =>
    (guardQ v562 true (Qload Try.prog 23 v563 r524.2)).bind fun v564 =>
    (guardQ v562 true (Qbin Try.prog Go.BinOp.eql 23 v564 (Go.Value.int Go.IntKind.u16 0))).bind fun v565 =>
    (guardQ (gv (isB v562 true) v565) false (QfieldAddr Try.prog 25 r524.1 0)).bind fun v566 =>
    (guardQ (gv (isB v562 true) v565) false (Qload Try.prog 5 v566 r524.2)).bind fun v567 =>
    (guardQ (gv (isB v562 true) v565) false (Qbin Try.prog Go.BinOp.eql 5 v567 (Go.Value.int Go.IntKind.u8 47))).bind fun v568 =>
    (guardQ v562 true (Qpick (gv (isB v562 true) v565) (Go.Value.bool true) v568)).bind fun v569 =>
    (Qpick v562 v569 (Go.Value.bool false)).bind fun v570 =>
    some (v570, r524.2)
  )
theorem s16eq (x0 : Value) (w : World) : evK Try.prog 16 none (bodyOf Try.f16) none _ { tmps := (([x0] : List Value) ++ List.replicate (59 - 1) undef).toArray, defers := [] } w (leaveK Try.prog Try.f16) = s16 x0 w := by kernel_rfl
theorem c16 {x0 : Value} {w : World} {r : Value × World} (h : s16 x0 w = some r) : C Try.prog 16 #[x0] w = some r :=
  C_ev follows_all drawLaw (by kernel_rfl) Try.func16 (by rfl) ((s16eq x0 w).trans h)
theorem e16 {x0 : Value} {w : World} {Q : Value × World → Prop} (h : Brings (s16 x0 w) Q) : Brings (Xcall Try.prog (Value.func (Fn.func 16) #[] #[]) #[x0] w) Q :=
  h.call (Xcall_fn Try.func16 (by decide +kernel) (by rfl) _ _ _ w) fun _ h => c16 h

/-! (*lychgate/expect.Book).List -/
noncomputable def s17 (x0 : Value) (w : World) : Option (Value × World) :=
  (Qbin Try.prog Go.BinOp.eql 26 x0 (Go.Value.pointer none)).bind fun v571 =>
  condK v571 (
    some ((Go.Value.slice none 0 0), w)
  ) (
    (Qnil x0).bind fun v572 =>
    (QfieldAddr Try.prog 58 v572 0).bind fun v573 =>
    (Qload Try.prog 32 v573 w).bind fun v574 =>
    (Xcall Try.prog (Value.func (Fn.func 33) #[] #[]) #[v574] w).bind fun r575 =>
    some (r575.1, r575.2)
  )
theorem s17eq (x0 : Value) (w : World) : evK Try.prog 17 none (bodyOf Try.f17) none _ { tmps := (([x0] : List Value) ++ List.replicate (10 - 1) undef).toArray, defers := [] } w (leaveK Try.prog Try.f17) = s17 x0 w := by kernel_rfl
theorem c17 {x0 : Value} {w : World} {r : Value × World} (h : s17 x0 w = some r) : C Try.prog 17 #[x0] w = some r :=
  C_ev follows_all drawLaw (by kernel_rfl) Try.func17 (by rfl) ((s17eq x0 w).trans h)
theorem e17 {x0 : Value} {w : World} {Q : Value × World → Prop} (h : Brings (s17 x0 w) Q) : Brings (Xcall Try.prog (Value.func (Fn.func 17) #[] #[]) #[x0] w) Q :=
  h.call (Xcall_fn Try.func17 (by decide +kernel) (by rfl) _ _ _ w) fun _ h => c17 h

/-! lychgate/lychgatelaw12.play -/
noncomputable def s18K0 : Exit → Act → World → Option (Value × World) := seqK (fun a w => evK Try.prog 18 none (nav [1, 1, 1] (bodyOf Try.f18)) none _ a w (leaveK Try.prog Try.f18)) (leaveK Try.prog Try.f18)
noncomputable def s18K1 : Exit → Act → World → Option (Value × World) := blockK 0 s18K0
noncomputable def s18L0 (s : List Value) (d : List Deferred) (w : World) : Option (Value × World) := loopN Try.prog 18 none (nav [1, 1, 0, 1, 0, 0] (bodyOf Try.f18)) s18K1 s d w
noncomputable def s18B0 : List Value → World → Option (Exit × List Value × World)
  | [x0, x2, x3, x4, x5, x6, x7], w =>
    (Qlen Try.prog #[35] 3 #[x0] w).bind fun v578 =>
    (Qbin Try.prog Go.BinOp.lss 3 x7 v578).bind fun v579 =>
    (guardQ v579 true (Qbin Try.prog Go.BinOp.lss 3 (gv (isB v579 true) x7) (Go.Value.int Go.IntKind.i64 100))).bind fun v580 =>
    (Qpick v579 v580 (Go.Value.bool false)).bind fun v581 =>
    condK v581 (
      (QindexAddr Try.prog 35 x0 x7 w).bind fun v582 =>
      (Qload Try.prog 39 v582 w).bind fun v583 =>
      (Xcall Try.prog (Value.func (Fn.func 27) #[] #[]) #[x5, x6, v583] w).bind fun r584 =>
      (Qun Go.UnOp.not r584.1).bind fun v585 =>
      condK v585 (
        some (Exit.ret, [x0, x5, x6, (Go.Value.bool false), x5, x6, x7], r584.2)
      ) (
        (Qbin Try.prog Go.BinOp.add 3 x7 (Go.Value.int Go.IntKind.i64 1)).bind fun v586 =>
        some (Exit.normal, [x0, x2, x3, x4, x5, x6, v586], r584.2)
      )
    ) (
      some ((Exit.exit 0), [x0, x2, x3, x4, x5, x6, x7], w)
    )
  | _, _ => none
noncomputable def s18R0 : Exit → List Value → World → Option (Value × World)
  | (Exit.exit 0), [_, _, _, _, x5, x6, _], w =>
    some ((Value.tuple #[x5, x6, (Go.Value.bool true)]), w)
  | Exit.ret, [_, x2, x3, x4, _, _, _], w =>
    some ((Value.tuple #[x2, x3, x4]), w)
  | _, _, _ => none
noncomputable def s18raw (x0 : Value) (w : World) : Option (Value × World) :=
  (Xcall Try.prog (Value.func (Fn.func 12) #[] #[]) #[] w).bind fun r576 =>
  (Xcall Try.prog (Value.func (Fn.func 34) #[] #[]) #[] r576.2).bind fun r577 =>
  s18L0 [x0, undef, (Go.Value.pointer none), (Go.Value.pointer none), (Go.Value.bool false), r576.1, r577.1, (Go.Value.int Go.IntKind.i64 0), r576.1, r577.1, undef, undef, undef, undef, undef, undef, undef, undef, undef, undef, undef, undef, undef, undef, undef, undef, undef, undef, undef, undef, undef, undef] [] r577.2
noncomputable def s18 (x0 : Value) (w : World) : Option (Value × World) :=
  (Xcall Try.prog (Value.func (Fn.func 12) #[] #[]) #[] w).bind fun r576 =>
  (Xcall Try.prog (Value.func (Fn.func 34) #[] #[]) #[] r576.2).bind fun r577 =>
  loopR s18B0 s18R0 [x0, (Go.Value.pointer none), (Go.Value.pointer none), (Go.Value.bool false), r576.1, r577.1, (Go.Value.int Go.IntKind.i64 0)] r577.2
theorem s18B0eq (x0 x2 x3 x4 x5 x6 x7 : Value) (w : World) (g : Nat → Value) (d : List Deferred) : evK Try.prog 18 none (nav [1, 1, 0, 1, 0, 0] (bodyOf Try.f18)) none _ (frm 32 (setL [0, 2, 3, 4, 5, 6, 7] [x0, x2, x3, x4, x5, x6, x7] g) d) w (projK [0, 2, 3, 4, 5, 6, 7]) = s18B0 [x0, x2, x3, x4, x5, x6, x7] w := by kernel_rfl
theorem s18R0x0eq (x0 x2 x3 x4 x5 x6 x7 : Value) (g : Nat → Value) (w : World) : s18K1 (Exit.exit 0) (frm 32 (setL [0, 2, 3, 4, 5, 6, 7] [x0, x2, x3, x4, x5, x6, x7] g) []) w = s18R0 (Exit.exit 0) [x0, x2, x3, x4, x5, x6, x7] w := by kernel_rfl
theorem s18R0ret_eq (x0 x2 x3 x4 x5 x6 x7 : Value) (g : Nat → Value) (w : World) : s18K1 Exit.ret (frm 32 (setL [0, 2, 3, 4, 5, 6, 7] [x0, x2, x3, x4, x5, x6, x7] g) []) w = s18R0 Exit.ret [x0, x2, x3, x4, x5, x6, x7] w := by kernel_rfl
theorem s18R0of : ∀ (e : Exit) (xs : List Value) (w : World) (g : Nat → Value) (y : _), s18R0 e xs w = some y → s18K1 e (frm 32 (setL [0, 2, 3, 4, 5, 6, 7] xs g) []) w = some y := by
  intro e xs w g y h
  unfold s18R0 at h
  split at h
  · exact (s18R0x0eq _ _ _ _ _ _ _ g _).trans h
  · exact (s18R0ret_eq _ _ _ _ _ _ _ g _).trans h
  · cases h
theorem s18L0of {s0 s1 s2 s3 s4 s5 s6 s7 s8 s9 s10 s11 s12 s13 s14 s15 s16 s17 s18 s19 s20 s21 s22 s23 s24 s25 s26 s27 s28 s29 s30 s31 : Value} {w : World} {r : _} (h : loopR s18B0 s18R0 [s0, s2, s3, s4, s5, s6, s7] w = some r) : s18L0 [s0, s1, s2, s3, s4, s5, s6, s7, s8, s9, s10, s11, s12, s13, s14, s15, s16, s17, s18, s19, s20, s21, s22, s23, s24, s25, s26, s27, s28, s29, s30, s31] [] w = some r :=
  loopN_of (B := s18B0) (R := s18R0) (n := 32) (live := [0, 2, 3, 4, 5, 6, 7]) (fun xs w g y hl h => match xs, hl, h with | [x0, x2, x3, x4, x5, x6, x7], _, h => (s18B0eq x0 x2 x3 x4 x5 x6 x7 w g []).trans h) (by kernel_rfl) (s18R0of) (fun i => ([s0, s1, s2, s3, s4, s5, s6, s7, s8, s9, s10, s11, s12, s13, s14, s15, s16, s17, s18, s19, s20, s21, s22, s23, s24, s25, s26, s27, s28, s29, s30, s31] : List Value).getD i undef) (by kernel_rfl) rfl h
theorem s18eq (x0 : Value) (w : World) : evK Try.prog 18 none (bodyOf Try.f18) none _ { tmps := (([x0] : List Value) ++ List.replicate (32 - 1) undef).toArray, defers := [] } w (leaveK Try.prog Try.f18) = s18raw x0 w := by kernel_rfl
theorem c18 {x0 : Value} {w : World} {r : Value × World} (h : s18 x0 w = some r) : C Try.prog 18 #[x0] w = some r :=
  C_ev follows_all drawLaw (by kernel_rfl) Try.func18 (by rfl) ((s18eq x0 w).trans (show s18raw x0 w = some r from (Ev.bind_mono fun (r576 : Value × World) => (Ev.bind_mono fun (r577 : Value × World) => (s18L0of))) h))
theorem e18 {x0 : Value} {w : World} {Q : Value × World → Prop} (h : Brings (s18 x0 w) Q) : Brings (Xcall Try.prog (Value.func (Fn.func 18) #[] #[]) #[x0] w) Q :=
  h.call (Xcall_fn Try.func18 (by decide +kernel) (by rfl) _ _ _ w) fun _ h => c18 h

/-! lychgate/lychgatelaw12.same -/
noncomputable def s19 (x0 x1 x2 x3 : Value) (w : World) : Option (Value × World) :=
  (Xbox Try.prog 37 x2 w).bind fun r587 =>
  (Qload Try.prog 37 r587.1 r587.2).bind fun v588 =>
  (Xcall Try.prog (Value.func (Fn.func 20) #[] #[]) #[x0, v588, x3] r587.2).bind fun r589 =>
  (Qext r589.1 0).bind fun v590 =>
  (Qext r589.1 1).bind fun v591 =>
  (Xalloc Try.prog 25 r589.2).bind fun r592 =>
  (Xstore Try.prog 25 r592.1 v590 r592.2).bind fun r593 =>
  (Qload Try.prog 37 r587.1 r593.2).bind fun v594 =>
  (Xcall Try.prog (Value.func (Fn.func 35) #[] #[]) #[x1, v594, x3] r593.2).bind fun r595 =>
  (Qext r595.1 0).bind fun v596 =>
  (Qext r595.1 1).bind fun v597 =>
  (Xalloc Try.prog 25 r595.2).bind fun r598 =>
  (Xstore Try.prog 25 r598.1 v596 r598.2).bind fun r599 =>
  (Qload Try.prog 25 r592.1 r599.2).bind fun v600 =>
  (Qload Try.prog 25 r598.1 r599.2).bind fun v601 =>
  (Qbin Try.prog Go.BinOp.eql 25 v600 v601).bind fun v602 =>
  (guardQ v602 true (Qbin Try.prog Go.BinOp.eql 4 (gv (isB v602 true) v591) (gv (isB v602 true) v597))).bind fun v603 =>
  (Qpick v602 v603 (Go.Value.bool false)).bind fun v604 =>
  (guardX v604 true r599.2 (Xcall Try.prog (Value.func (Fn.func 17) #[] #[]) #[(gv (isB v604 true) x0)] r599.2)).bind fun r605 =>
  (guardX v604 true r605.2 (Xcall Try.prog (Value.func (Fn.func 36) #[] #[]) #[(gv (isB v604 true) x1)] r605.2)).bind fun r606 =>
  (guardX v604 true r606.2 (Xcall Try.prog (Value.func (Fn.func 24) #[] #[]) #[r605.1, r606.1] r606.2)).bind fun r607 =>
  (Qpick v604 r607.1 (Go.Value.bool false)).bind fun v608 =>
  some (v608, r607.2)
theorem s19eq (x0 x1 x2 x3 : Value) (w : World) : evK Try.prog 19 none (bodyOf Try.f19) none _ { tmps := (([x0, x1, x2, x3] : List Value) ++ List.replicate (42 - 4) undef).toArray, defers := [] } w (leaveK Try.prog Try.f19) = s19 x0 x1 x2 x3 w := by kernel_rfl
theorem c19 {x0 x1 x2 x3 : Value} {w : World} {r : Value × World} (h : s19 x0 x1 x2 x3 w = some r) : C Try.prog 19 #[x0, x1, x2, x3] w = some r :=
  C_ev follows_all drawLaw (by kernel_rfl) Try.func19 (by rfl) ((s19eq x0 x1 x2 x3 w).trans h)
theorem e19 {x0 x1 x2 x3 : Value} {w : World} {Q : Value × World → Prop} (h : Brings (s19 x0 x1 x2 x3 w) Q) : Brings (Xcall Try.prog (Value.func (Fn.func 19) #[] #[]) #[x0, x1, x2, x3] w) Q :=
  h.call (Xcall_fn Try.func19 (by decide +kernel) (by rfl) _ _ _ w) fun _ h => c19 h

/-! (*lychgate/expect.Book).Peek -/
noncomputable def s20 (x0 x1 x2 : Value) (w : World) : Option (Value × World) :=
  (Xbox Try.prog 37 x1 w).bind fun r609 =>
  (Xalloc Try.prog 25 r609.2).bind fun r610 =>
  (Qload Try.prog 37 r609.1 r610.2).bind fun v611 =>
  (Xcall Try.prog (Value.func (Fn.func 37) #[] #[]) #[x0, v611, x2] r610.2).bind fun r612 =>
  (Qbin Try.prog Go.BinOp.geq 3 r612.1 (Go.Value.int Go.IntKind.i64 0)).bind fun v613 =>
  condK v613 (
    (Qnil x0).bind fun v614 =>
    (QfieldAddr Try.prog 58 v614 0).bind fun v615 =>
    (Qload Try.prog 32 v615 r612.2).bind fun v616 =>
    (QindexAddr Try.prog 32 v616 r612.1 r612.2).bind fun v617 =>
    (Qload Try.prog 25 v617 r612.2).bind fun v618 =>
    (Xstore Try.prog 25 r610.1 v618 r612.2).bind fun r619 =>
    ((((Qload Try.prog 25 r610.1 r619.2).bind fun v => ((((some [])).map fun vs => (Go.Value.bool true) :: vs)).map fun vs => v :: vs)).map oneOf).map fun v => (v, r619.2)
  ) (
    (Qbuild Try.prog 25 #[] r612.2).bind fun v620 =>
    (Xstore Try.prog 25 r610.1 v620 r612.2).bind fun r621 =>
    ((((Qload Try.prog 25 r610.1 r621.2).bind fun v => ((((some [])).map fun vs => (Go.Value.bool false) :: vs)).map fun vs => v :: vs)).map oneOf).map fun v => (v, r621.2)
  )
theorem s20eq (x0 x1 x2 : Value) (w : World) : evK Try.prog 20 none (bodyOf Try.f20) none _ { tmps := (([x0, x1, x2] : List Value) ++ List.replicate (23 - 3) undef).toArray, defers := [] } w (leaveK Try.prog Try.f20) = s20 x0 x1 x2 w := by kernel_rfl
theorem c20 {x0 x1 x2 : Value} {w : World} {r : Value × World} (h : s20 x0 x1 x2 w = some r) : C Try.prog 20 #[x0, x1, x2] w = some r :=
  C_ev follows_all drawLaw (by kernel_rfl) Try.func20 (by rfl) ((s20eq x0 x1 x2 w).trans h)
theorem e20 {x0 x1 x2 : Value} {w : World} {Q : Value × World → Prop} (h : Brings (s20 x0 x1 x2 w) Q) : Brings (Xcall Try.prog (Value.func (Fn.func 20) #[] #[]) #[x0, x1, x2] w) Q :=
  h.call (Xcall_fn Try.func20 (by decide +kernel) (by rfl) _ _ _ w) fun _ h => c20 h

/-! (*lychgate/expect.Book).Match -/
noncomputable def s21 (x0 x1 x2 : Value) (w : World) : Option (Value × World) :=
  (Xbox Try.prog 37 x1 w).bind fun r622 =>
  (Xalloc Try.prog 25 r622.2).bind fun r623 =>
  (Qload Try.prog 37 r622.1 r623.2).bind fun v624 =>
  (Xcall Try.prog (Value.func (Fn.func 20) #[] #[]) #[x0, v624, x2] r623.2).bind fun r625 =>
  (Qext r625.1 0).bind fun v626 =>
  (Qext r625.1 1).bind fun v627 =>
  (Xalloc Try.prog 25 r625.2).bind fun r628 =>
  (Xstore Try.prog 25 r628.1 v626 r628.2).bind fun r629 =>
  condK v627 (
    (Qload Try.prog 37 r622.1 r629.2).bind fun v630 =>
    (Xcall Try.prog (Value.func (Fn.func 37) #[] #[]) #[x0, v630, x2] r629.2).bind fun r631 =>
    (Qnil x0).bind fun v632 =>
    (QfieldAddr Try.prog 58 v632 0).bind fun v633 =>
    (Qload Try.prog 32 v633 r631.2).bind fun v634 =>
    (Qbin Try.prog Go.BinOp.add 3 r631.1 (Go.Value.int Go.IntKind.i64 1)).bind fun v635 =>
    (Xcall Try.prog (Value.func (Fn.func 38) #[] #[]) #[v634, r631.1, v635] r631.2).bind fun r636 =>
    (Qnil x0).bind fun v637 =>
    (QfieldAddr Try.prog 58 v637 0).bind fun v638 =>
    (Xstore Try.prog 32 v638 r636.1 r636.2).bind fun r639 =>
    (Qload Try.prog 25 r628.1 r639.2).bind fun v640 =>
    (Xstore Try.prog 25 r623.1 v640 r639.2).bind fun r641 =>
    ((((Qload Try.prog 25 r623.1 r641.2).bind fun v => ((((some [])).map fun vs => v627 :: vs)).map fun vs => v :: vs)).map oneOf).map fun v => (v, r641.2)
  ) (
    (Qload Try.prog 25 r628.1 r629.2).bind fun v642 =>
    (Xstore Try.prog 25 r623.1 v642 r629.2).bind fun r643 =>
    ((((Qload Try.prog 25 r623.1 r643.2).bind fun v => ((((some [])).map fun vs => v627 :: vs)).map fun vs => v :: vs)).map oneOf).map fun v => (v, r643.2)
  )
theorem s21eq (x0 x1 x2 : Value) (w : World) : evK Try.prog 21 none (bodyOf Try.f21) none _ { tmps := (([x0, x1, x2] : List Value) ++ List.replicate (36 - 3) undef).toArray, defers := [] } w (leaveK Try.prog Try.f21) = s21 x0 x1 x2 w := by kernel_rfl
theorem c21 {x0 x1 x2 : Value} {w : World} {r : Value × World} (h : s21 x0 x1 x2 w = some r) : C Try.prog 21 #[x0, x1, x2] w = some r :=
  C_ev follows_all drawLaw (by kernel_rfl) Try.func21 (by rfl) ((s21eq x0 x1 x2 w).trans h)
theorem e21 {x0 x1 x2 : Value} {w : World} {Q : Value × World → Prop} (h : Brings (s21 x0 x1 x2 w) Q) : Brings (Xcall Try.prog (Value.func (Fn.func 21) #[] #[]) #[x0, x1, x2] w) Q :=
  h.call (Xcall_fn Try.func21 (by decide +kernel) (by rfl) _ _ _ w) fun _ h => c21 h

/-! (*lychgate/expect.Book).Gone -/
noncomputable def s22 (x0 x1 : Value) (w : World) : Option (Value × World) :=
  (Xbox Try.prog 3 x1 w).bind fun r644 =>
  (some (Value.func (Go.Fn.func 40) #[] #[r644.1])).bind fun v645 =>
  (Xcall Try.prog (Value.func (Fn.func 39) #[] #[]) #[x0, v645] r644.2).bind fun r646 =>
  some (r646.1, r646.2)
theorem s22eq (x0 x1 : Value) (w : World) : evK Try.prog 22 none (bodyOf Try.f22) none _ { tmps := (([x0, x1] : List Value) ++ List.replicate (8 - 2) undef).toArray, defers := [] } w (leaveK Try.prog Try.f22) = s22 x0 x1 w := by kernel_rfl
theorem c22 {x0 x1 : Value} {w : World} {r : Value × World} (h : s22 x0 x1 w = some r) : C Try.prog 22 #[x0, x1] w = some r :=
  C_ev follows_all drawLaw (by kernel_rfl) Try.func22 (by rfl) ((s22eq x0 x1 w).trans h)
theorem e22 {x0 x1 : Value} {w : World} {Q : Value × World → Prop} (h : Brings (s22 x0 x1 w) Q) : Brings (Xcall Try.prog (Value.func (Fn.func 22) #[] #[]) #[x0, x1] w) Q :=
  h.call (Xcall_fn Try.func22 (by decide +kernel) (by rfl) _ _ _ w) fun _ h => c22 h

/-! (*lychgate/expect.Book).Due -/
noncomputable def s23 (x0 x1 : Value) (w : World) : Option (Value × World) :=
  (Xbox Try.prog 3 x1 w).bind fun r647 =>
  (some (Value.func (Go.Fn.func 41) #[] #[r647.1])).bind fun v648 =>
  (Xcall Try.prog (Value.func (Fn.func 39) #[] #[]) #[x0, v648] r647.2).bind fun r649 =>
  some (r649.1, r649.2)
theorem s23eq (x0 x1 : Value) (w : World) : evK Try.prog 23 none (bodyOf Try.f23) none _ { tmps := (([x0, x1] : List Value) ++ List.replicate (8 - 2) undef).toArray, defers := [] } w (leaveK Try.prog Try.f23) = s23 x0 x1 w := by kernel_rfl
theorem c23 {x0 x1 : Value} {w : World} {r : Value × World} (h : s23 x0 x1 w = some r) : C Try.prog 23 #[x0, x1] w = some r :=
  C_ev follows_all drawLaw (by kernel_rfl) Try.func23 (by rfl) ((s23eq x0 x1 w).trans h)
theorem e23 {x0 x1 : Value} {w : World} {Q : Value × World → Prop} (h : Brings (s23 x0 x1 w) Q) : Brings (Xcall Try.prog (Value.func (Fn.func 23) #[] #[]) #[x0, x1] w) Q :=
  h.call (Xcall_fn Try.func23 (by decide +kernel) (by rfl) _ _ _ w) fun _ h => c23 h

/-! lychgate/lychgateref12.Same -/
noncomputable def s24K0 : Exit → Act → World → Option (Value × World) := seqK (fun a w => evK Try.prog 24 none (nav [1, 1, 1] (bodyOf Try.f24)) none _ a w (leaveK Try.prog Try.f24)) (leaveK Try.prog Try.f24)
noncomputable def s24K1 : Exit → Act → World → Option (Value × World) := blockK 0 s24K0
noncomputable def s24L0 (s : List Value) (d : List Deferred) (w : World) : Option (Value × World) := loopN Try.prog 24 none (nav [1, 1, 0, 1, 0, 0] (bodyOf Try.f24)) s24K1 s d w
noncomputable def s24B0 : List Value → World → Option (Exit × List Value × World)
  | [x0, x1, x4, x5], w =>
    (Qlen Try.prog #[32] 3 #[x0] w).bind fun v653 =>
    (Qbin Try.prog Go.BinOp.lss 3 x5 v653).bind fun v654 =>
    condK v654 (
      (QindexAddr Try.prog 32 x0 x5 w.drew).bind fun v655 =>
      (Qload Try.prog 25 v655 w.drew).bind fun v656 =>
      (QindexAddr Try.prog 32 x1 x5 w.drew).bind fun v657 =>
      (Qload Try.prog 25 v657 w.drew).bind fun v658 =>
      (Qbin Try.prog Go.BinOp.neq 25 v656 v658).bind fun v659 =>
      chkK True (
        condK v659 (
          some (Exit.ret, [x0, x1, (Go.Value.bool false), x5], w.drew)
        ) (
          (Qbin Try.prog Go.BinOp.add 3 x5 (Go.Value.int Go.IntKind.i64 1)).bind fun v660 =>
          some (Exit.normal, [x0, x1, x4, v660], w.drew)
        )
      )
    ) (
      some ((Exit.exit 0), [x0, x1, x4, x5], w)
    )
  | _, _ => none
noncomputable def s24R0 : Exit → List Value → World → Option (Value × World)
  | (Exit.exit 0), [_, _, _, _], w =>
    some ((Go.Value.bool true), w)
  | Exit.ret, [_, _, x4, _], w =>
    some (x4, w)
  | _, _, _ => none
noncomputable def s24raw (x0 x1 : Value) (w : World) : Option (Value × World) :=
  (Qlen Try.prog #[32] 3 #[x0] w).bind fun v650 =>
  (Qlen Try.prog #[32] 3 #[x1] w).bind fun v651 =>
  (Qbin Try.prog Go.BinOp.neq 3 v650 v651).bind fun v652 =>
  condK v652 (
    some ((Go.Value.bool false), w)
  ) (
    s24L0 [x0, x1, undef, undef, (Go.Value.bool false), (Go.Value.int Go.IntKind.i64 0), x0, v650, x1, v651, v652, undef, undef, undef, undef, undef, undef, undef, undef, undef, undef, undef, undef, undef, undef, undef] [] w
  )
noncomputable def s24 (x0 x1 : Value) (w : World) : Option (Value × World) :=
  (Qlen Try.prog #[32] 3 #[x0] w).bind fun v650 =>
  (Qlen Try.prog #[32] 3 #[x1] w).bind fun v651 =>
  (Qbin Try.prog Go.BinOp.neq 3 v650 v651).bind fun v652 =>
  condK v652 (
    some ((Go.Value.bool false), w)
  ) (
    loopR s24B0 s24R0 [x0, x1, (Go.Value.bool false), (Go.Value.int Go.IntKind.i64 0)] w
  )
theorem s24B0eq (x0 x1 x4 x5 : Value) (w : World) (g : Nat → Value) (d : List Deferred) : evK Try.prog 24 none (nav [1, 1, 0, 1, 0, 0] (bodyOf Try.f24)) none _ (frm 26 (setL [0, 1, 4, 5] [x0, x1, x4, x5] g) d) w (projK [0, 1, 4, 5]) = s24B0 [x0, x1, x4, x5] w := by kernel_rfl
theorem s24R0x0eq (x0 x1 x4 x5 : Value) (g : Nat → Value) (w : World) : s24K1 (Exit.exit 0) (frm 26 (setL [0, 1, 4, 5] [x0, x1, x4, x5] g) []) w = s24R0 (Exit.exit 0) [x0, x1, x4, x5] w := by kernel_rfl
theorem s24R0ret_eq (x0 x1 x4 x5 : Value) (g : Nat → Value) (w : World) : s24K1 Exit.ret (frm 26 (setL [0, 1, 4, 5] [x0, x1, x4, x5] g) []) w = s24R0 Exit.ret [x0, x1, x4, x5] w := by kernel_rfl
theorem s24R0of : ∀ (e : Exit) (xs : List Value) (w : World) (g : Nat → Value) (y : _), s24R0 e xs w = some y → s24K1 e (frm 26 (setL [0, 1, 4, 5] xs g) []) w = some y := by
  intro e xs w g y h
  unfold s24R0 at h
  split at h
  · exact (s24R0x0eq _ _ _ _ g _).trans h
  · exact (s24R0ret_eq _ _ _ _ g _).trans h
  · cases h
theorem s24L0of {s0 s1 s2 s3 s4 s5 s6 s7 s8 s9 s10 s11 s12 s13 s14 s15 s16 s17 s18 s19 s20 s21 s22 s23 s24 s25 : Value} {w : World} {r : _} (h : loopR s24B0 s24R0 [s0, s1, s4, s5] w = some r) : s24L0 [s0, s1, s2, s3, s4, s5, s6, s7, s8, s9, s10, s11, s12, s13, s14, s15, s16, s17, s18, s19, s20, s21, s22, s23, s24, s25] [] w = some r :=
  loopN_of (B := s24B0) (R := s24R0) (n := 26) (live := [0, 1, 4, 5]) (fun xs w g y hl h => match xs, hl, h with | [x0, x1, x4, x5], _, h => (s24B0eq x0 x1 x4 x5 w g []).trans h) (by kernel_rfl) (s24R0of) (fun i => ([s0, s1, s2, s3, s4, s5, s6, s7, s8, s9, s10, s11, s12, s13, s14, s15, s16, s17, s18, s19, s20, s21, s22, s23, s24, s25] : List Value).getD i undef) (by kernel_rfl) rfl h
theorem s24eq (x0 x1 : Value) (w : World) : evK Try.prog 24 none (bodyOf Try.f24) none _ { tmps := (([x0, x1] : List Value) ++ List.replicate (26 - 2) undef).toArray, defers := [] } w (leaveK Try.prog Try.f24) = s24raw x0 x1 w := by kernel_rfl
theorem c24 {x0 x1 : Value} {w : World} {r : Value × World} (h : s24 x0 x1 w = some r) : C Try.prog 24 #[x0, x1] w = some r :=
  C_ev follows_all drawLaw (by kernel_rfl) Try.func24 (by rfl) ((s24eq x0 x1 w).trans (show s24raw x0 x1 w = some r from (Ev.bind_mono fun (v650 : Value) => (Ev.bind_mono fun (v651 : Value) => (Ev.bind_mono fun (v652 : Value) => (condK_mono id (s24L0of))))) h))
theorem e24 {x0 x1 : Value} {w : World} {Q : Value × World → Prop} (h : Brings (s24 x0 x1 w) Q) : Brings (Xcall Try.prog (Value.func (Fn.func 24) #[] #[]) #[x0, x1] w) Q :=
  h.call (Xcall_fn Try.func24 (by decide +kernel) (by rfl) _ _ _ w) fun _ h => c24 h

/-! (*lychgate/expect.Book).Fork -/
noncomputable def s25 (x0 : Value) (w : World) : Option (Value × World) :=
  (Qbin Try.prog Go.BinOp.eql 26 x0 (Go.Value.pointer none)).bind fun v661 =>
  condK v661 (
    some ((Go.Value.pointer none), w)
  ) (
    (Qnil x0).bind fun v662 =>
    (QfieldAddr Try.prog 58 v662 0).bind fun v663 =>
    (Qload Try.prog 32 v663 w).bind fun v664 =>
    (Xcall Try.prog (Value.func (Fn.func 33) #[] #[]) #[v664] w).bind fun r665 =>
    (Qbuild Try.prog 58 #[(0, r665.1)] r665.2).bind fun v666 =>
    (Xbox Try.prog 58 v666 r665.2).bind fun r667 =>
    some (r667.1, r667.2)
  )
theorem s25eq (x0 : Value) (w : World) : evK Try.prog 25 none (bodyOf Try.f25) none _ { tmps := (([x0] : List Value) ++ List.replicate (12 - 1) undef).toArray, defers := [] } w (leaveK Try.prog Try.f25) = s25 x0 w := by kernel_rfl
theorem c25 {x0 : Value} {w : World} {r : Value × World} (h : s25 x0 w = some r) : C Try.prog 25 #[x0] w = some r :=
  C_ev follows_all drawLaw (by kernel_rfl) Try.func25 (by rfl) ((s25eq x0 w).trans h)
theorem e25 {x0 : Value} {w : World} {Q : Value × World → Prop} (h : Brings (s25 x0 w) Q) : Brings (Xcall Try.prog (Value.func (Fn.func 25) #[] #[]) #[x0] w) Q :=
  h.call (Xcall_fn Try.func25 (by decide +kernel) (by rfl) _ _ _ w) fun _ h => c25 h

/-! (*lychgate/lychgateref12.Book).Fork -/
noncomputable def s26 (x0 : Value) (w : World) : Option (Value × World) :=
  (Qbin Try.prog Go.BinOp.eql 40 x0 (Go.Value.pointer none)).bind fun v668 =>
  condK v668 (
    some ((Go.Value.pointer none), w)
  ) (
    (XbuildSlice Try.prog 32 0 #[] w).bind fun r669 =>
    (Qnil x0).bind fun v670 =>
    (QfieldAddr Try.prog 69 v670 0).bind fun v671 =>
    (Qload Try.prog 32 v671 r669.2).bind fun v672 =>
    (Xbi Try.prog Go.Builtin.append #[32, 32] 32 #[r669.1, v672] r669.2).bind fun r673 =>
    (Qbuild Try.prog 69 #[(0, r673.1)] r673.2).bind fun v674 =>
    (Xbox Try.prog 69 v674 r673.2).bind fun r675 =>
    some (r675.1, r675.2)
  )
theorem s26eq (x0 : Value) (w : World) : evK Try.prog 26 none (bodyOf Try.f26) none _ { tmps := (([x0] : List Value) ++ List.replicate (13 - 1) undef).toArray, defers := [] } w (leaveK Try.prog Try.f26) = s26 x0 w := by kernel_rfl
theorem c26 {x0 : Value} {w : World} {r : Value × World} (h : s26 x0 w = some r) : C Try.prog 26 #[x0] w = some r :=
  C_ev follows_all drawLaw (by kernel_rfl) Try.func26 (by rfl) ((s26eq x0 w).trans h)
theorem e26 {x0 : Value} {w : World} {Q : Value × World → Prop} (h : Brings (s26 x0 w) Q) : Brings (Xcall Try.prog (Value.func (Fn.func 26) #[] #[]) #[x0] w) Q :=
  h.call (Xcall_fn Try.func26 (by decide +kernel) (by rfl) _ _ _ w) fun _ h => c26 h

/-! lychgate/lychgatelaw12.do -/
noncomputable def s27 (x0 x1 x2 : Value) (w : World) : Option (Value × World) :=
  (Xbox Try.prog 39 x2 w).bind fun r676 =>
  (QfieldAddr Try.prog 39 r676.1 0).bind fun v677 =>
  (Qload Try.prog 3 v677 r676.2).bind fun v678 =>
  (Qbin Try.prog Go.BinOp.eql 3 v678 (Go.Value.int Go.IntKind.i64 0)).bind fun v679 =>
  condK v679 (
    (QfieldAddr Try.prog 39 r676.1 1).bind fun v680 =>
    (Qload Try.prog 25 v680 r676.2.drew).bind fun v681 =>
    (Xcall Try.prog (Value.func (Fn.func 13) #[] #[]) #[x0, v681] r676.2.drew).bind fun r682 =>
    (QfieldAddr Try.prog 39 r676.1 1).bind fun v683 =>
    (Qload Try.prog 25 v683 r682.2).bind fun v684 =>
    (Xcall Try.prog (Value.func (Fn.func 42) #[] #[]) #[x1, v684] r682.2).bind fun r685 =>
    (Qbin Try.prog Go.BinOp.eql 28 r682.1 r685.1).bind fun v686 =>
    chkK ((Qload Try.prog 25 v683 r676.2.drew = some v684 ∧ Qload Try.prog 25 v683 r682.2 = some v684) ∧ True) (
      some (v686, r685.2)
    )
  ) (
    (Qbin Try.prog Go.BinOp.eql 3 v678 (Go.Value.int Go.IntKind.i64 1)).bind fun v687 =>
    condK v687 (
      (QfieldAddr Try.prog 39 r676.1 2).bind fun v688 =>
      (Qload Try.prog 37 v688 r676.2).bind fun v689 =>
      (QfieldAddr Try.prog 39 r676.1 3).bind fun v690 =>
      (Qload Try.prog 3 v690 r676.2).bind fun v691 =>
      (Xcall Try.prog (Value.func (Fn.func 21) #[] #[]) #[x0, v689, v691] r676.2).bind fun r692 =>
      (Qext r692.1 0).bind fun v693 =>
      (Qext r692.1 1).bind fun v694 =>
      (Xalloc Try.prog 25 r692.2).bind fun r695 =>
      (Xstore Try.prog 25 r695.1 v693 r695.2).bind fun r696 =>
      (QfieldAddr Try.prog 39 r676.1 2).bind fun v697 =>
      (Qload Try.prog 37 v697 r696.2).bind fun v698 =>
      (QfieldAddr Try.prog 39 r676.1 3).bind fun v699 =>
      (Qload Try.prog 3 v699 r696.2).bind fun v700 =>
      (Xcall Try.prog (Value.func (Fn.func 43) #[] #[]) #[x1, v698, v700] r696.2).bind fun r701 =>
      (Qext r701.1 0).bind fun v702 =>
      (Qext r701.1 1).bind fun v703 =>
      (Xalloc Try.prog 25 r701.2).bind fun r704 =>
      (Xstore Try.prog 25 r704.1 v702 r704.2).bind fun r705 =>
      (Qload Try.prog 25 r695.1 r705.2).bind fun v706 =>
      (Qload Try.prog 25 r704.1 r705.2).bind fun v707 =>
      (Qbin Try.prog Go.BinOp.eql 25 v706 v707).bind fun v708 =>
      (guardQ v708 true (Qbin Try.prog Go.BinOp.eql 4 (gv (isB v708 true) v694) (gv (isB v708 true) v703))).bind fun v709 =>
      (Qpick v708 v709 (Go.Value.bool false)).bind fun v710 =>
      some (v710, r705.2)
    ) (
      (Qbin Try.prog Go.BinOp.eql 3 v678 (Go.Value.int Go.IntKind.i64 2)).bind fun v711 =>
      condK v711 (
        (QfieldAddr Try.prog 39 r676.1 1).bind fun v712 =>
        (QfieldAddr Try.prog 25 v712 7).bind fun v713 =>
        (Qload Try.prog 3 v713 r676.2.drew).bind fun v714 =>
        (Xcall Try.prog (Value.func (Fn.func 22) #[] #[]) #[x0, v714] r676.2.drew).bind fun r715 =>
        (QfieldAddr Try.prog 39 r676.1 1).bind fun v716 =>
        (QfieldAddr Try.prog 25 v716 7).bind fun v717 =>
        (Qload Try.prog 3 v717 r715.2).bind fun v718 =>
        (Xcall Try.prog (Value.func (Fn.func 44) #[] #[]) #[x1, v718] r715.2).bind fun r719 =>
        (Xcall Try.prog (Value.func (Fn.func 24) #[] #[]) #[r715.1, r719.1] r719.2).bind fun r720 =>
        chkK ((Qload Try.prog 3 v717 r676.2.drew = some v718 ∧ Qload Try.prog 3 v717 r715.2 = some v718) ∧ True) (
          some (r720.1, r720.2)
        )
      ) (
        (Qbin Try.prog Go.BinOp.eql 3 v678 (Go.Value.int Go.IntKind.i64 3)).bind fun v721 =>
        condK v721 (
          (QfieldAddr Try.prog 39 r676.1 3).bind fun v722 =>
          (Qload Try.prog 3 v722 r676.2.drew).bind fun v723 =>
          (Xcall Try.prog (Value.func (Fn.func 23) #[] #[]) #[x0, v723] r676.2.drew).bind fun r724 =>
          (QfieldAddr Try.prog 39 r676.1 3).bind fun v725 =>
          (Qload Try.prog 3 v725 r724.2).bind fun v726 =>
          (Xcall Try.prog (Value.func (Fn.func 45) #[] #[]) #[x1, v726] r724.2).bind fun r727 =>
          (Xcall Try.prog (Value.func (Fn.func 24) #[] #[]) #[r724.1, r727.1] r727.2).bind fun r728 =>
          chkK ((Qload Try.prog 3 v725 r676.2.drew = some v726 ∧ Qload Try.prog 3 v725 r724.2 = some v726) ∧ True) (
            some (r728.1, r728.2)
          )
        ) (
          some ((Go.Value.bool true), r676.2)
        )
      )
    )
  )
theorem s27eq (x0 x1 x2 : Value) (w : World) : evK Try.prog 27 none (bodyOf Try.f27) none _ { tmps := (([x0, x1, x2] : List Value) ++ List.replicate (76 - 3) undef).toArray, defers := [] } w (leaveK Try.prog Try.f27) = s27 x0 x1 x2 w := by kernel_rfl
theorem c27 {x0 x1 x2 : Value} {w : World} {r : Value × World} (h : s27 x0 x1 x2 w = some r) : C Try.prog 27 #[x0, x1, x2] w = some r :=
  C_ev follows_all drawLaw (by kernel_rfl) Try.func27 (by rfl) ((s27eq x0 x1 x2 w).trans h)
theorem e27 {x0 x1 x2 : Value} {w : World} {Q : Value × World → Prop} (h : Brings (s27 x0 x1 x2 w) Q) : Brings (Xcall Try.prog (Value.func (Fn.func 27) #[] #[]) #[x0, x1, x2] w) Q :=
  h.call (Xcall_fn Try.func27 (by decide +kernel) (by rfl) _ _ _ w) fun _ h => c27 h

/-! (*lychgate/expect.Book).Add$1 -/
noncomputable def s28 (x0 x1 : Value) (w : World) : Option (Value × World) :=
  (Xbox Try.prog 25 x0 w).bind fun r729 =>
  (QfieldAddr Try.prog 25 r729.1 0).bind fun v730 =>
  (Qload Try.prog 5 v730 r729.2).bind fun v731 =>
  (QfieldAddr Try.prog 25 x1 0).bind fun v732 =>
  (Qload Try.prog 5 v732 r729.2).bind fun v733 =>
  (Qbin Try.prog Go.BinOp.eql 5 v731 v733).bind fun v734 =>
  (guardQ v734 true (QfieldAddr Try.prog 25 r729.1 2)).bind fun v735 =>
  (guardQ v734 true (Qload Try.prog 22 v735 r729.2)).bind fun v736 =>
  (guardQ v734 true (QfieldAddr Try.prog 25 x1 2)).bind fun v737 =>
  (guardQ v734 true (Qload Try.prog 22 v737 r729.2)).bind fun v738 =>
  (guardQ v734 true (Qbin Try.prog Go.BinOp.eql 22 v736 v738)).bind fun v739 =>
  (Qpick v734 v739 (Go.Value.bool false)).bind fun v740 =>
  (guardQ v740 true (QfieldAddr Try.prog 25 r729.1 4)).bind fun v741 =>
  (guardQ v740 true (Qload Try.prog 23 v741 r729.2)).bind fun v742 =>
  (guardQ v740 true (QfieldAddr Try.prog 25 x1 4)).bind fun v743 =>
  (guardQ v740 true (Qload Try.prog 23 v743 r729.2)).bind fun v744 =>
  (guardQ v740 true (Qbin Try.prog Go.BinOp.eql 23 v742 v744)).bind fun v745 =>
  (Qpick v740 v745 (Go.Value.bool false)).bind fun v746 =>
  some (v746, r729.2)
theorem s28eq (x0 x1 : Value) (w : World) : evK Try.prog 28 none (bodyOf Try.f28) none _ { tmps := (([x0, x1] : List Value) ++ List.replicate (23 - 2) undef).toArray, defers := [] } w (leaveK Try.prog Try.f28) = s28 x0 x1 w := by kernel_rfl
theorem c28 {x0 x1 : Value} {w : World} {r : Value × World} (h : s28 x0 x1 w = some r) : C Try.prog 28 #[x0, x1] w = some r :=
  C_ev follows_all drawLaw (by kernel_rfl) Try.func28 (by rfl) ((s28eq x0 x1 w).trans h)
theorem e28 {x0 x1 : Value} {w : World} {Q : Value × World → Prop} (h : Brings (s28 x0 x1 w) Q) : Brings (Xcall Try.prog (Value.func (Fn.func 28) #[] #[x1]) #[x0] w) Q :=
  h.call (Xcall_fn Try.func28 (by decide +kernel) (by rfl) _ _ _ w) fun _ h => c28 h

/-! lychgate/expect.split[lychgate/api.Expect] -/
noncomputable def s29K0 : Exit → Act → World → Option (Value × World) := seqK (fun a w => evK Try.prog 29 none (nav [1, 1] (bodyOf Try.f29)) none _ a w (leaveK Try.prog Try.f29)) (leaveK Try.prog Try.f29)
noncomputable def s29K1 : Exit → Act → World → Option (Value × World) := blockK 0 s29K0
noncomputable def s29L0 (s : List Value) (d : List Deferred) (w : World) : Option (Value × World) := loopN Try.prog 29 none (nav [1, 0, 1, 0, 0] (bodyOf Try.f29)) s29K1 s d w
noncomputable def s29B0 : List Value → World → Option (Exit × List Value × World)
  | [x1, x4, x5, x8, x9, x10], w =>
    (Qbin Try.prog Go.BinOp.lss 3 x10 x9).bind fun v748 =>
    condK v748 (
      (QindexAddr Try.prog 32 x8 x10 w).bind fun v749 =>
      (Qload Try.prog 25 v749 w).bind fun v750 =>
      (Xalloc Try.prog 25 w).bind fun r751 =>
      (Xstore Try.prog 25 r751.1 v750 r751.2).bind fun r752 =>
      (Qload Try.prog 25 r751.1 r752.2).bind fun v753 =>
      (Xcall Try.prog x1 #[v753] r752.2).bind fun r754 =>
      condK r754.1 (
        (Qload Try.prog 25 r751.1 r754.2).bind fun v755 =>
        (XbuildSlice Try.prog 32 1 #[(0, v755)] r754.2).bind fun r756 =>
        (Xbi Try.prog Go.Builtin.append #[32, 32] 32 #[x4, r756.1] r756.2).bind fun r757 =>
        (Qbin Try.prog Go.BinOp.add 3 x10 (Go.Value.int Go.IntKind.i64 1)).bind fun v758 =>
        some (Exit.normal, [x1, r757.1, x5, x8, x9, v758], r757.2)
      ) (
        (Qload Try.prog 25 r751.1 r754.2).bind fun v759 =>
        (XbuildSlice Try.prog 32 1 #[(0, v759)] r754.2).bind fun r760 =>
        (Xbi Try.prog Go.Builtin.append #[32, 32] 32 #[x5, r760.1] r760.2).bind fun r761 =>
        (Qbin Try.prog Go.BinOp.add 3 x10 (Go.Value.int Go.IntKind.i64 1)).bind fun v762 =>
        some (Exit.normal, [x1, x4, r761.1, x8, x9, v762], r761.2)
      )
    ) (
      some ((Exit.exit 0), [x1, x4, x5, x8, x9, x10], w)
    )
  | _, _ => none
noncomputable def s29R0 : Exit → List Value → World → Option (Value × World)
  | (Exit.exit 0), [_, x4, x5, _, _, _], w =>
    some ((Value.tuple #[x4, x5]), w)
  | _, _, _ => none
noncomputable def s29raw (x0 x1 : Value) (w : World) : Option (Value × World) :=
  (Qlen Try.prog #[32] 3 #[x0] w).bind fun v747 =>
  s29L0 [x0, x1, undef, undef, (Go.Value.slice none 0 0), (Go.Value.slice none 0 0), undef, undef, x0, v747, (Go.Value.int Go.IntKind.i64 0), undef, undef, undef, undef, undef, undef, undef, undef, undef, undef, undef, undef, undef, undef, undef, undef, undef] [] w
noncomputable def s29 (x0 x1 : Value) (w : World) : Option (Value × World) :=
  (Qlen Try.prog #[32] 3 #[x0] w).bind fun v747 =>
  loopR s29B0 s29R0 [x1, (Go.Value.slice none 0 0), (Go.Value.slice none 0 0), x0, v747, (Go.Value.int Go.IntKind.i64 0)] w
theorem s29B0eq (x1 x4 x5 x8 x9 x10 : Value) (w : World) (g : Nat → Value) (d : List Deferred) : evK Try.prog 29 none (nav [1, 0, 1, 0, 0] (bodyOf Try.f29)) none _ (frm 28 (setL [1, 4, 5, 8, 9, 10] [x1, x4, x5, x8, x9, x10] g) d) w (projK [1, 4, 5, 8, 9, 10]) = s29B0 [x1, x4, x5, x8, x9, x10] w := by kernel_rfl
theorem s29R0x0eq (x1 x4 x5 x8 x9 x10 : Value) (g : Nat → Value) (w : World) : s29K1 (Exit.exit 0) (frm 28 (setL [1, 4, 5, 8, 9, 10] [x1, x4, x5, x8, x9, x10] g) []) w = s29R0 (Exit.exit 0) [x1, x4, x5, x8, x9, x10] w := by kernel_rfl
theorem s29R0of : ∀ (e : Exit) (xs : List Value) (w : World) (g : Nat → Value) (y : _), s29R0 e xs w = some y → s29K1 e (frm 28 (setL [1, 4, 5, 8, 9, 10] xs g) []) w = some y := by
  intro e xs w g y h
  unfold s29R0 at h
  split at h
  · exact (s29R0x0eq _ _ _ _ _ _ g _).trans h
  · cases h
theorem s29L0of {s0 s1 s2 s3 s4 s5 s6 s7 s8 s9 s10 s11 s12 s13 s14 s15 s16 s17 s18 s19 s20 s21 s22 s23 s24 s25 s26 s27 : Value} {w : World} {r : _} (h : loopR s29B0 s29R0 [s1, s4, s5, s8, s9, s10] w = some r) : s29L0 [s0, s1, s2, s3, s4, s5, s6, s7, s8, s9, s10, s11, s12, s13, s14, s15, s16, s17, s18, s19, s20, s21, s22, s23, s24, s25, s26, s27] [] w = some r :=
  loopN_of (B := s29B0) (R := s29R0) (n := 28) (live := [1, 4, 5, 8, 9, 10]) (fun xs w g y hl h => match xs, hl, h with | [x1, x4, x5, x8, x9, x10], _, h => (s29B0eq x1 x4 x5 x8 x9 x10 w g []).trans h) (by kernel_rfl) (s29R0of) (fun i => ([s0, s1, s2, s3, s4, s5, s6, s7, s8, s9, s10, s11, s12, s13, s14, s15, s16, s17, s18, s19, s20, s21, s22, s23, s24, s25, s26, s27] : List Value).getD i undef) (by kernel_rfl) rfl h
theorem s29eq (x0 x1 : Value) (w : World) : evK Try.prog 29 none (bodyOf Try.f29) none _ { tmps := (([x0, x1] : List Value) ++ List.replicate (28 - 2) undef).toArray, defers := [] } w (leaveK Try.prog Try.f29) = s29raw x0 x1 w := by kernel_rfl
theorem c29 {x0 x1 : Value} {w : World} {r : Value × World} (h : s29 x0 x1 w = some r) : C Try.prog 29 #[x0, x1] w = some r :=
  C_ev follows_all drawLaw (by kernel_rfl) Try.func29 (by rfl) ((s29eq x0 x1 w).trans (show s29raw x0 x1 w = some r from (Ev.bind_mono fun (v747 : Value) => (s29L0of)) h))
theorem e29 {x0 x1 : Value} {w : World} {Q : Value × World → Prop} (h : Brings (s29 x0 x1 w) Q) : Brings (Xcall Try.prog (Value.func (Fn.func 29) #[] #[]) #[x0, x1] w) Q :=
  h.call (Xcall_fn Try.func29 (by decide +kernel) (by rfl) _ _ _ w) fun _ h => c29 h

/-! (*lychgate/expect.Book).Add$2 -/
noncomputable def s30 (x0 x1 : Value) (w : World) : Option (Value × World) :=
  (Xbox Try.prog 25 x0 w).bind fun r763 =>
  (QfieldAddr Try.prog 25 r763.1 7).bind fun v764 =>
  (Qload Try.prog 3 v764 r763.2).bind fun v765 =>
  (QfieldAddr Try.prog 25 x1 7).bind fun v766 =>
  (Qload Try.prog 3 v766 r763.2).bind fun v767 =>
  (Qbin Try.prog Go.BinOp.eql 3 v765 v767).bind fun v768 =>
  some (v768, r763.2)
theorem s30eq (x0 x1 : Value) (w : World) : evK Try.prog 30 none (bodyOf Try.f30) none _ { tmps := (([x0, x1] : List Value) ++ List.replicate (9 - 2) undef).toArray, defers := [] } w (leaveK Try.prog Try.f30) = s30 x0 x1 w := by kernel_rfl
theorem c30 {x0 x1 : Value} {w : World} {r : Value × World} (h : s30 x0 x1 w = some r) : C Try.prog 30 #[x0, x1] w = some r :=
  C_ev follows_all drawLaw (by kernel_rfl) Try.func30 (by rfl) ((s30eq x0 x1 w).trans h)
theorem e30 {x0 x1 : Value} {w : World} {Q : Value × World → Prop} (h : Brings (s30 x0 x1 w) Q) : Brings (Xcall Try.prog (Value.func (Fn.func 30) #[] #[x1]) #[x0] w) Q :=
  h.call (Xcall_fn Try.func30 (by decide +kernel) (by rfl) _ _ _ w) fun _ h => c30 h

/-! slices.ContainsFunc[[]lychgate/api.Expect,lychgate/api.Expect] -/
noncomputable def s31 (x0 x1 : Value) (w : World) : Option (Value × World) :=
  (Xcall Try.prog (Value.func (Fn.func 46) #[] #[]) #[x0, x1] w).bind fun r769 =>
  (Qbin Try.prog Go.BinOp.geq 3 r769.1 (Go.Value.int Go.IntKind.i64 0)).bind fun v770 =>
  some (v770, r769.2)
theorem s31eq (x0 x1 : Value) (w : World) : evK Try.prog 31 none (bodyOf Try.f31) none _ { tmps := (([x0, x1] : List Value) ++ List.replicate (9 - 2) undef).toArray, defers := [] } w (leaveK Try.prog Try.f31) = s31 x0 x1 w := by kernel_rfl
theorem c31 {x0 x1 : Value} {w : World} {r : Value × World} (h : s31 x0 x1 w = some r) : C Try.prog 31 #[x0, x1] w = some r :=
  C_ev follows_all drawLaw (by kernel_rfl) Try.func31 (by rfl) ((s31eq x0 x1 w).trans h)
theorem e31 {x0 x1 : Value} {w : World} {Q : Value × World → Prop} (h : Brings (s31 x0 x1 w) Q) : Brings (Xcall Try.prog (Value.func (Fn.func 31) #[] #[]) #[x0, x1] w) Q :=
  h.call (Xcall_fn Try.func31 (by decide +kernel) (by rfl) _ _ _ w) fun _ h => c31 h

/-! slices.Contains[[]byte,byte] -/
noncomputable def s32 (x0 x1 : Value) (w : World) : Option (Value × World) :=
  (Xcall Try.prog (Value.func (Fn.func 47) #[] #[]) #[x0, x1] w).bind fun r771 =>
  (Qbin Try.prog Go.BinOp.geq 3 r771.1 (Go.Value.int Go.IntKind.i64 0)).bind fun v772 =>
  some (v772, r771.2)
theorem s32eq (x0 x1 : Value) (w : World) : evK Try.prog 32 none (bodyOf Try.f32) none _ { tmps := (([x0, x1] : List Value) ++ List.replicate (9 - 2) undef).toArray, defers := [] } w (leaveK Try.prog Try.f32) = s32 x0 x1 w := by kernel_rfl
theorem c32 {x0 x1 : Value} {w : World} {r : Value × World} (h : s32 x0 x1 w = some r) : C Try.prog 32 #[x0, x1] w = some r :=
  C_ev follows_all drawLaw (by kernel_rfl) Try.func32 (by rfl) ((s32eq x0 x1 w).trans h)
theorem e32 {x0 x1 : Value} {w : World} {Q : Value × World → Prop} (h : Brings (s32 x0 x1 w) Q) : Brings (Xcall Try.prog (Value.func (Fn.func 32) #[] #[]) #[x0, x1] w) Q :=
  h.call (Xcall_fn Try.func32 (by decide +kernel) (by rfl) _ _ _ w) fun _ h => c32 h

/-! slices.Clone[[]lychgate/api.Expect,lychgate/api.Expect] -/
noncomputable def s33 (x0 : Value) (w : World) : Option (Value × World) :=
  (Qbin Try.prog Go.BinOp.eql 32 x0 (Go.Value.slice none 0 0)).bind fun v773 =>
  condK v773 (
    some ((Go.Value.slice none 0 0), w)
  ) (
    (XbuildSlice Try.prog 32 0 #[] w).bind fun r774 =>
    (Xbi Try.prog Go.Builtin.append #[32, 32] 32 #[r774.1, x0] r774.2).bind fun r775 =>
    some (r775.1, r775.2)
  )
theorem s33eq (x0 : Value) (w : World) : evK Try.prog 33 none (bodyOf Try.f33) none _ { tmps := (([x0] : List Value) ++ List.replicate (8 - 1) undef).toArray, defers := [] } w (leaveK Try.prog Try.f33) = s33 x0 w := by kernel_rfl
theorem c33 {x0 : Value} {w : World} {r : Value × World} (h : s33 x0 w = some r) : C Try.prog 33 #[x0] w = some r :=
  C_ev follows_all drawLaw (by kernel_rfl) Try.func33 (by rfl) ((s33eq x0 w).trans h)
theorem e33 {x0 : Value} {w : World} {Q : Value × World → Prop} (h : Brings (s33 x0 w) Q) : Brings (Xcall Try.prog (Value.func (Fn.func 33) #[] #[]) #[x0] w) Q :=
  h.call (Xcall_fn Try.func33 (by decide +kernel) (by rfl) _ _ _ w) fun _ h => c33 h

/-! lychgate/lychgateref12.New -/
noncomputable def s34 (w : World) : Option (Value × World) :=
  (Qbuild Try.prog 69 #[] w).bind fun v776 =>
  (Xbox Try.prog 69 v776 w).bind fun r777 =>
  some (r777.1, r777.2)
theorem s34eq (w : World) : evK Try.prog 34 none (bodyOf Try.f34) none _ { tmps := (([] : List Value) ++ List.replicate (3 - 0) undef).toArray, defers := [] } w (leaveK Try.prog Try.f34) = s34  w := by kernel_rfl
theorem c34 {w : World} {r : Value × World} (h : s34  w = some r) : C Try.prog 34 #[] w = some r :=
  C_ev follows_all drawLaw (by kernel_rfl) Try.func34 (by rfl) ((s34eq  w).trans h)
theorem e34 {w : World} {Q : Value × World → Prop} (h : Brings (s34  w) Q) : Brings (Xcall Try.prog (Value.func (Fn.func 34) #[] #[]) #[] w) Q :=
  h.call (Xcall_fn Try.func34 (by decide +kernel) (by rfl) _ _ _ w) fun _ h => c34 h

/-! (*lychgate/lychgateref12.Book).Peek -/
noncomputable def s35 (x0 x1 x2 : Value) (w : World) : Option (Value × World) :=
  (Xbox Try.prog 37 x1 w).bind fun r778 =>
  (Xalloc Try.prog 25 r778.2).bind fun r779 =>
  (Qload Try.prog 37 r778.1 r779.2).bind fun v780 =>
  (Xcall Try.prog (Value.func (Fn.func 48) #[] #[]) #[x0, v780, x2] r779.2).bind fun r781 =>
  (Qbin Try.prog Go.BinOp.lss 3 r781.1 (Go.Value.int Go.IntKind.i64 0)).bind fun v782 =>
  condK v782 (
    (Qbuild Try.prog 25 #[] r781.2).bind fun v783 =>
    (Xstore Try.prog 25 r779.1 v783 r781.2).bind fun r784 =>
    ((((Qload Try.prog 25 r779.1 r784.2).bind fun v => ((((some [])).map fun vs => (Go.Value.bool false) :: vs)).map fun vs => v :: vs)).map oneOf).map fun v => (v, r784.2)
  ) (
    (Qnil x0).bind fun v785 =>
    (QfieldAddr Try.prog 69 v785 0).bind fun v786 =>
    (Qload Try.prog 32 v786 r781.2).bind fun v787 =>
    (QindexAddr Try.prog 32 v787 r781.1 r781.2).bind fun v788 =>
    (Qload Try.prog 25 v788 r781.2).bind fun v789 =>
    (Xstore Try.prog 25 r779.1 v789 r781.2).bind fun r790 =>
    ((((Qload Try.prog 25 r779.1 r790.2).bind fun v => ((((some [])).map fun vs => (Go.Value.bool true) :: vs)).map fun vs => v :: vs)).map oneOf).map fun v => (v, r790.2)
  )
theorem s35eq (x0 x1 x2 : Value) (w : World) : evK Try.prog 35 none (bodyOf Try.f35) none _ { tmps := (([x0, x1, x2] : List Value) ++ List.replicate (23 - 3) undef).toArray, defers := [] } w (leaveK Try.prog Try.f35) = s35 x0 x1 x2 w := by kernel_rfl
theorem c35 {x0 x1 x2 : Value} {w : World} {r : Value × World} (h : s35 x0 x1 x2 w = some r) : C Try.prog 35 #[x0, x1, x2] w = some r :=
  C_ev follows_all drawLaw (by kernel_rfl) Try.func35 (by rfl) ((s35eq x0 x1 x2 w).trans h)
theorem e35 {x0 x1 x2 : Value} {w : World} {Q : Value × World → Prop} (h : Brings (s35 x0 x1 x2 w) Q) : Brings (Xcall Try.prog (Value.func (Fn.func 35) #[] #[]) #[x0, x1, x2] w) Q :=
  h.call (Xcall_fn Try.func35 (by decide +kernel) (by rfl) _ _ _ w) fun _ h => c35 h

/-! (*lychgate/lychgateref12.Book).List -/
noncomputable def s36 (x0 : Value) (w : World) : Option (Value × World) :=
  (Qbin Try.prog Go.BinOp.eql 40 x0 (Go.Value.pointer none)).bind fun v791 =>
  condK v791 (
    some ((Go.Value.slice none 0 0), w)
  ) (
    (XbuildSlice Try.prog 32 0 #[] w).bind fun r792 =>
    (Qnil x0).bind fun v793 =>
    (QfieldAddr Try.prog 69 v793 0).bind fun v794 =>
    (Qload Try.prog 32 v794 r792.2).bind fun v795 =>
    (Xbi Try.prog Go.Builtin.append #[32, 32] 32 #[r792.1, v795] r792.2).bind fun r796 =>
    some (r796.1, r796.2)
  )
theorem s36eq (x0 : Value) (w : World) : evK Try.prog 36 none (bodyOf Try.f36) none _ { tmps := (([x0] : List Value) ++ List.replicate (11 - 1) undef).toArray, defers := [] } w (leaveK Try.prog Try.f36) = s36 x0 w := by kernel_rfl
theorem c36 {x0 : Value} {w : World} {r : Value × World} (h : s36 x0 w = some r) : C Try.prog 36 #[x0] w = some r :=
  C_ev follows_all drawLaw (by kernel_rfl) Try.func36 (by rfl) ((s36eq x0 w).trans h)
theorem e36 {x0 : Value} {w : World} {Q : Value × World → Prop} (h : Brings (s36 x0 w) Q) : Brings (Xcall Try.prog (Value.func (Fn.func 36) #[] #[]) #[x0] w) Q :=
  h.call (Xcall_fn Try.func36 (by decide +kernel) (by rfl) _ _ _ w) fun _ h => c36 h

/-! (*lychgate/expect.Book).at -/
noncomputable def s37 (x0 x1 x2 : Value) (w : World) : Option (Value × World) :=
  (Xbox Try.prog 37 x1 w).bind fun r797 =>
  (Xbox Try.prog 3 x2 r797.2).bind fun r798 =>
  (Qbin Try.prog Go.BinOp.eql 26 x0 (Go.Value.pointer none)).bind fun v799 =>
  condK v799 (
    some ((Go.Value.int Go.IntKind.i64 (-1)), r798.2)
  ) (
    (Qnil x0).bind fun v800 =>
    (QfieldAddr Try.prog 58 v800 0).bind fun v801 =>
    (Qload Try.prog 32 v801 r798.2).bind fun v802 =>
    (some (Value.func (Go.Fn.func 49) #[] #[r797.1, r798.1])).bind fun v803 =>
    (Xcall Try.prog (Value.func (Fn.func 46) #[] #[]) #[v802, v803] r798.2).bind fun r804 =>
    some (r804.1, r804.2)
  )
theorem s37eq (x0 x1 x2 : Value) (w : World) : evK Try.prog 37 none (bodyOf Try.f37) none _ { tmps := (([x0, x1, x2] : List Value) ++ List.replicate (15 - 3) undef).toArray, defers := [] } w (leaveK Try.prog Try.f37) = s37 x0 x1 x2 w := by kernel_rfl
theorem c37 {x0 x1 x2 : Value} {w : World} {r : Value × World} (h : s37 x0 x1 x2 w = some r) : C Try.prog 37 #[x0, x1, x2] w = some r :=
  C_ev follows_all drawLaw (by kernel_rfl) Try.func37 (by rfl) ((s37eq x0 x1 x2 w).trans h)
theorem e37 {x0 x1 x2 : Value} {w : World} {Q : Value × World → Prop} (h : Brings (s37 x0 x1 x2 w) Q) : Brings (Xcall Try.prog (Value.func (Fn.func 37) #[] #[]) #[x0, x1, x2] w) Q :=
  h.call (Xcall_fn Try.func37 (by decide +kernel) (by rfl) _ _ _ w) fun _ h => c37 h

/-! slices.Delete[[]lychgate/api.Expect,lychgate/api.Expect] -/
noncomputable def s38 (x0 x1 x2 : Value) (w : World) : Option (Value × World) :=
  (Qlen Try.prog #[32] 3 #[x0] w).bind fun v805 =>
  (Qslice Try.prog 32 x0 (some x1) (some x2) (some v805) w).bind fun _ =>
  (Qbin Try.prog Go.BinOp.eql 3 x1 x2).bind fun v807 =>
  condK v807 (
    some (x0, w)
  ) (
    (Qlen Try.prog #[32] 3 #[x0] w).bind fun v808 =>
    (Qslice Try.prog 32 x0 none (some x1) none w.drew).bind fun v809 =>
    (Qslice Try.prog 32 x0 (some x2) none none w.drew).bind fun v810 =>
    (Xbi Try.prog Go.Builtin.append #[32, 32] 32 #[v809, v810] w.drew).bind fun r811 =>
    chkK True (
      (Qlen Try.prog #[32] 3 #[r811.1] r811.2).bind fun v812 =>
      (Qslice Try.prog 32 r811.1 (some v812) (some v808) none r811.2).bind fun v813 =>
      (Xbi Try.prog Go.Builtin.clear #[32] 0 #[v813] r811.2).bind fun r814 =>
      some (r811.1, r814.2)
    )
  )
theorem s38eq (x0 x1 x2 : Value) (w : World) : evK Try.prog 38 none (bodyOf Try.f38) none _ { tmps := (([x0, x1, x2] : List Value) ++ List.replicate (33 - 3) undef).toArray, defers := [] } w (leaveK Try.prog Try.f38) = s38 x0 x1 x2 w := by kernel_rfl
theorem c38 {x0 x1 x2 : Value} {w : World} {r : Value × World} (h : s38 x0 x1 x2 w = some r) : C Try.prog 38 #[x0, x1, x2] w = some r :=
  C_ev follows_all drawLaw (by kernel_rfl) Try.func38 (by rfl) ((s38eq x0 x1 x2 w).trans h)
theorem e38 {x0 x1 x2 : Value} {w : World} {Q : Value × World → Prop} (h : Brings (s38 x0 x1 x2 w) Q) : Brings (Xcall Try.prog (Value.func (Fn.func 38) #[] #[]) #[x0, x1, x2] w) Q :=
  h.call (Xcall_fn Try.func38 (by decide +kernel) (by rfl) _ _ _ w) fun _ h => c38 h

/-! (*lychgate/expect.Book).taken -/
noncomputable def s39 (x0 x1 : Value) (w : World) : Option (Value × World) :=
  (Qbin Try.prog Go.BinOp.eql 26 x0 (Go.Value.pointer none)).bind fun v815 =>
  condK v815 (
    some ((Go.Value.slice none 0 0), w)
  ) (
    (Qnil x0).bind fun v816 =>
    (QfieldAddr Try.prog 58 v816 0).bind fun v817 =>
    (Qload Try.prog 32 v817 w).bind fun v818 =>
    (Xcall Try.prog (Value.func (Fn.func 29) #[] #[]) #[v818, x1] w).bind fun r819 =>
    (Qext r819.1 0).bind fun v820 =>
    (Qext r819.1 1).bind fun v821 =>
    (Qnil x0).bind fun v822 =>
    (QfieldAddr Try.prog 58 v822 0).bind fun v823 =>
    (Xstore Try.prog 32 v823 v821 r819.2).bind fun r824 =>
    some (v820, r824.2)
  )
theorem s39eq (x0 x1 : Value) (w : World) : evK Try.prog 39 none (bodyOf Try.f39) none _ { tmps := (([x0, x1] : List Value) ++ List.replicate (23 - 2) undef).toArray, defers := [] } w (leaveK Try.prog Try.f39) = s39 x0 x1 w := by kernel_rfl
theorem c39 {x0 x1 : Value} {w : World} {r : Value × World} (h : s39 x0 x1 w = some r) : C Try.prog 39 #[x0, x1] w = some r :=
  C_ev follows_all drawLaw (by kernel_rfl) Try.func39 (by rfl) ((s39eq x0 x1 w).trans h)
theorem e39 {x0 x1 : Value} {w : World} {Q : Value × World → Prop} (h : Brings (s39 x0 x1 w) Q) : Brings (Xcall Try.prog (Value.func (Fn.func 39) #[] #[]) #[x0, x1] w) Q :=
  h.call (Xcall_fn Try.func39 (by decide +kernel) (by rfl) _ _ _ w) fun _ h => c39 h

/-! (*lychgate/expect.Book).Gone$1 -/
noncomputable def s40 (x0 x1 : Value) (w : World) : Option (Value × World) :=
  (Xbox Try.prog 25 x0 w).bind fun r825 =>
  (QfieldAddr Try.prog 25 r825.1 7).bind fun v826 =>
  (Qload Try.prog 3 v826 r825.2).bind fun v827 =>
  (Qload Try.prog 3 x1 r825.2).bind fun v828 =>
  (Qbin Try.prog Go.BinOp.eql 3 v827 v828).bind fun v829 =>
  some (v829, r825.2)
theorem s40eq (x0 x1 : Value) (w : World) : evK Try.prog 40 none (bodyOf Try.f40) none _ { tmps := (([x0, x1] : List Value) ++ List.replicate (8 - 2) undef).toArray, defers := [] } w (leaveK Try.prog Try.f40) = s40 x0 x1 w := by kernel_rfl
theorem c40 {x0 x1 : Value} {w : World} {r : Value × World} (h : s40 x0 x1 w = some r) : C Try.prog 40 #[x0, x1] w = some r :=
  C_ev follows_all drawLaw (by kernel_rfl) Try.func40 (by rfl) ((s40eq x0 x1 w).trans h)
theorem e40 {x0 x1 : Value} {w : World} {Q : Value × World → Prop} (h : Brings (s40 x0 x1 w) Q) : Brings (Xcall Try.prog (Value.func (Fn.func 40) #[] #[x1]) #[x0] w) Q :=
  h.call (Xcall_fn Try.func40 (by decide +kernel) (by rfl) _ _ _ w) fun _ h => c40 h

/-! (*lychgate/expect.Book).Due$1 -/
noncomputable def s41 (x0 x1 : Value) (w : World) : Option (Value × World) :=
  (Xbox Try.prog 25 x0 w).bind fun r830 =>
  (QfieldAddr Try.prog 25 r830.1 8).bind fun v831 =>
  (Qload Try.prog 3 v831 r830.2).bind fun v832 =>
  (Qload Try.prog 3 x1 r830.2).bind fun v833 =>
  (Qbin Try.prog Go.BinOp.leq 3 v832 v833).bind fun v834 =>
  some (v834, r830.2)
theorem s41eq (x0 x1 : Value) (w : World) : evK Try.prog 41 none (bodyOf Try.f41) none _ { tmps := (([x0, x1] : List Value) ++ List.replicate (8 - 2) undef).toArray, defers := [] } w (leaveK Try.prog Try.f41) = s41 x0 x1 w := by kernel_rfl
theorem c41 {x0 x1 : Value} {w : World} {r : Value × World} (h : s41 x0 x1 w = some r) : C Try.prog 41 #[x0, x1] w = some r :=
  C_ev follows_all drawLaw (by kernel_rfl) Try.func41 (by rfl) ((s41eq x0 x1 w).trans h)
theorem e41 {x0 x1 : Value} {w : World} {Q : Value × World → Prop} (h : Brings (s41 x0 x1 w) Q) : Brings (Xcall Try.prog (Value.func (Fn.func 41) #[] #[x1]) #[x0] w) Q :=
  h.call (Xcall_fn Try.func41 (by decide +kernel) (by rfl) _ _ _ w) fun _ h => c41 h

/-! (*lychgate/lychgateref12.Book).Add -/
noncomputable def s42K0 : Exit → Act → World → Option (Value × World) := seqK (fun a w => evK Try.prog 42 none (nav [1, 1, 1, 1] (bodyOf Try.f42)) none _ a w (leaveK Try.prog Try.f42)) (leaveK Try.prog Try.f42)
noncomputable def s42K1 : Exit → Act → World → Option (Value × World) := blockK 1 s42K0
noncomputable def s42L0 (s : List Value) (d : List Deferred) (w : World) : Option (Value × World) := loopN Try.prog 42 none (nav [1, 1, 1, 0, 1, 0, 0] (bodyOf Try.f42)) s42K1 s d w
noncomputable def s42B0 : List Value → World → Option (Exit × List Value × World)
  | [x0, x3, x4, x5, x6], w =>
    (Qnil x0).bind fun v840 =>
    (QfieldAddr Try.prog 69 v840 0).bind fun v841 =>
    (Qload Try.prog 32 v841 w).bind fun v842 =>
    (Qlen Try.prog #[32] 3 #[v842] w).bind fun v843 =>
    (Qbin Try.prog Go.BinOp.lss 3 x6 v843).bind fun v844 =>
    condK v844 (
      (Qnil x0).bind fun v845 =>
      (QfieldAddr Try.prog 69 v845 0).bind fun v846 =>
      (Qload Try.prog 32 v846 w).bind fun v847 =>
      (QindexAddr Try.prog 32 v847 x6 w).bind fun v848 =>
      (Qload Try.prog 25 v848 w).bind fun v849 =>
      (Xalloc Try.prog 25 w).bind fun r850 =>
      (Xstore Try.prog 25 r850.1 v849 r850.2).bind fun r851 =>
      (QfieldAddr Try.prog 25 r850.1 0).bind fun v852 =>
      (Qload Try.prog 5 v852 r851.2).bind fun v853 =>
      (QfieldAddr Try.prog 25 x3 0).bind fun v854 =>
      (Qload Try.prog 5 v854 r851.2).bind fun v855 =>
      (Qbin Try.prog Go.BinOp.eql 5 v853 v855).bind fun v856 =>
      (guardQ v856 true (QfieldAddr Try.prog 25 r850.1 2)).bind fun v857 =>
      (guardQ v856 true (Qload Try.prog 22 v857 r851.2)).bind fun v858 =>
      (guardQ v856 true (QfieldAddr Try.prog 25 x3 2)).bind fun v859 =>
      (guardQ v856 true (Qload Try.prog 22 v859 r851.2)).bind fun v860 =>
      (guardQ v856 true (Qbin Try.prog Go.BinOp.eql 22 v858 v860)).bind fun v861 =>
      (Qpick v856 v861 (Go.Value.bool false)).bind fun v862 =>
      (guardQ v862 true (QfieldAddr Try.prog 25 r850.1 4)).bind fun v863 =>
      (guardQ v862 true (Qload Try.prog 23 v863 r851.2)).bind fun v864 =>
      (guardQ v862 true (QfieldAddr Try.prog 25 x3 4)).bind fun v865 =>
      (guardQ v862 true (Qload Try.prog 23 v865 r851.2)).bind fun v866 =>
      (guardQ v862 true (Qbin Try.prog Go.BinOp.eql 23 v864 v866)).bind fun v867 =>
      (Qpick v862 v867 (Go.Value.bool false)).bind fun v868 =>
      condK v868 (
        some (Exit.ret, [x0, x3, (Go.Value.int Go.IntKind.i64 10), x5, x6], r851.2)
      ) (
        (QfieldAddr Try.prog 25 r850.1 7).bind fun v869 =>
        (Qload Try.prog 3 v869 r851.2).bind fun v870 =>
        (QfieldAddr Try.prog 25 x3 7).bind fun v871 =>
        (Qload Try.prog 3 v871 r851.2).bind fun v872 =>
        (Qbin Try.prog Go.BinOp.eql 3 v870 v872).bind fun v873 =>
        condK v873 (
          (Qbin Try.prog Go.BinOp.add 3 x5 (Go.Value.int Go.IntKind.i64 1)).bind fun v874 =>
          (Qbin Try.prog Go.BinOp.add 3 x6 (Go.Value.int Go.IntKind.i64 1)).bind fun v875 =>
          some (Exit.normal, [x0, x3, x4, v874, v875], r851.2)
        ) (
          (Qbin Try.prog Go.BinOp.add 3 x6 (Go.Value.int Go.IntKind.i64 1)).bind fun v876 =>
          some (Exit.normal, [x0, x3, x4, x5, v876], r851.2)
        )
      )
    ) (
      some ((Exit.exit 1), [x0, x3, x4, x5, x6], w)
    )
  | _, _ => none
noncomputable def s42R0 : Exit → List Value → World → Option (Value × World)
  | (Exit.exit 1), [x0, x3, _, x5, _], w =>
    (Qnil x0).bind fun v877 =>
    (QfieldAddr Try.prog 69 v877 0).bind fun v878 =>
    (Qload Try.prog 32 v878 w).bind fun v879 =>
    (Qlen Try.prog #[32] 3 #[v879] w).bind fun v880 =>
    (Qbin Try.prog Go.BinOp.geq 3 v880 (Go.Value.int Go.IntKind.i64 32)).bind fun v881 =>
    (guardQ v881 false (Qbin Try.prog Go.BinOp.geq 3 (gv (isB v881 false) x5) (Go.Value.int Go.IntKind.i64 4))).bind fun v882 =>
    (Qpick v881 (Go.Value.bool true) v882).bind fun v883 =>
    condK v883 (
      some ((Go.Value.int Go.IntKind.i64 9), w)
    ) (
      (Qnil x0).bind fun v884 =>
      (QfieldAddr Try.prog 69 v884 0).bind fun v885 =>
      (Qload Try.prog 32 v885 w.drew).bind fun v886 =>
      (Qload Try.prog 25 x3 w.drew).bind fun v887 =>
      (XbuildSlice Try.prog 32 1 #[(0, v887)] w.drew).bind fun r888 =>
      (Xbi Try.prog Go.Builtin.append #[32, 32] 32 #[v886, r888.1] r888.2).bind fun r889 =>
      (Qnil x0).bind fun v890 =>
      (QfieldAddr Try.prog 69 v890 0).bind fun v891 =>
      (Xstore Try.prog 32 v891 r889.1 r889.2).bind fun r892 =>
      chkK ((Qload Try.prog 32 v885 w.drew = some v886 ∧ Qload Try.prog 32 v885 r888.2 = some v886) ∧ True) (
        some ((Go.Value.int Go.IntKind.i64 0), r892.2)
      )
    )
  | Exit.ret, [_, _, x4, _, _], w =>
    some (x4, w)
  | _, _, _ => none
noncomputable def s42raw (x0 x1 : Value) (w : World) : Option (Value × World) :=
  (Xbox Try.prog 25 x1 w).bind fun r835 =>
  (Qbin Try.prog Go.BinOp.eql 40 x0 (Go.Value.pointer none)).bind fun v836 =>
  condK v836 (
    some ((Go.Value.int Go.IntKind.i64 1), r835.2)
  ) (
    (Qload Try.prog 25 r835.1 r835.2).bind fun v837 =>
    (Xcall Try.prog (Value.func (Fn.func 16) #[] #[]) #[v837] r835.2).bind fun r838 =>
    (Qun Go.UnOp.not r838.1).bind fun v839 =>
    condK v839 (
      some ((Go.Value.int Go.IntKind.i64 2), r838.2)
    ) (
      s42L0 [x0, x1, undef, r835.1, (Go.Value.int Go.IntKind.i64 0), (Go.Value.int Go.IntKind.i64 0), (Go.Value.int Go.IntKind.i64 0), undef, v836, x0, v836, v839, v837, r838.1, v839, undef, undef, undef, undef, undef, undef, undef, undef, undef, undef, undef, undef, undef, undef, undef, undef, undef, undef, undef, undef, undef, undef, undef, undef, undef, undef, undef, undef, undef, undef, undef, undef, undef, undef, undef, undef, undef, undef, undef, undef, undef, undef, undef, undef, undef, undef, undef, undef, undef, undef, undef, undef, undef, undef, undef, undef, undef, undef, undef, undef, undef, undef] [] r838.2
    )
  )
noncomputable def s42 (x0 x1 : Value) (w : World) : Option (Value × World) :=
  (Xbox Try.prog 25 x1 w).bind fun r835 =>
  (Qbin Try.prog Go.BinOp.eql 40 x0 (Go.Value.pointer none)).bind fun v836 =>
  condK v836 (
    some ((Go.Value.int Go.IntKind.i64 1), r835.2)
  ) (
    (Qload Try.prog 25 r835.1 r835.2).bind fun v837 =>
    (Xcall Try.prog (Value.func (Fn.func 16) #[] #[]) #[v837] r835.2).bind fun r838 =>
    (Qun Go.UnOp.not r838.1).bind fun v839 =>
    condK v839 (
      some ((Go.Value.int Go.IntKind.i64 2), r838.2)
    ) (
      loopR s42B0 s42R0 [x0, r835.1, (Go.Value.int Go.IntKind.i64 0), (Go.Value.int Go.IntKind.i64 0), (Go.Value.int Go.IntKind.i64 0)] r838.2
    )
  )
theorem s42B0eq (x0 x3 x4 x5 x6 : Value) (w : World) (g : Nat → Value) (d : List Deferred) : evK Try.prog 42 none (nav [1, 1, 1, 0, 1, 0, 0] (bodyOf Try.f42)) none _ (frm 77 (setL [0, 3, 4, 5, 6] [x0, x3, x4, x5, x6] g) d) w (projK [0, 3, 4, 5, 6]) = s42B0 [x0, x3, x4, x5, x6] w := by kernel_rfl
theorem s42R0x1eq (x0 x3 x4 x5 x6 : Value) (g : Nat → Value) (w : World) : s42K1 (Exit.exit 1) (frm 77 (setL [0, 3, 4, 5, 6] [x0, x3, x4, x5, x6] g) []) w = s42R0 (Exit.exit 1) [x0, x3, x4, x5, x6] w := by kernel_rfl
theorem s42R0ret_eq (x0 x3 x4 x5 x6 : Value) (g : Nat → Value) (w : World) : s42K1 Exit.ret (frm 77 (setL [0, 3, 4, 5, 6] [x0, x3, x4, x5, x6] g) []) w = s42R0 Exit.ret [x0, x3, x4, x5, x6] w := by kernel_rfl
theorem s42R0of : ∀ (e : Exit) (xs : List Value) (w : World) (g : Nat → Value) (y : _), s42R0 e xs w = some y → s42K1 e (frm 77 (setL [0, 3, 4, 5, 6] xs g) []) w = some y := by
  intro e xs w g y h
  unfold s42R0 at h
  split at h
  · exact (s42R0x1eq _ _ _ _ _ g _).trans h
  · exact (s42R0ret_eq _ _ _ _ _ g _).trans h
  · cases h
theorem s42L0of {s0 s1 s2 s3 s4 s5 s6 s7 s8 s9 s10 s11 s12 s13 s14 s15 s16 s17 s18 s19 s20 s21 s22 s23 s24 s25 s26 s27 s28 s29 s30 s31 s32 s33 s34 s35 s36 s37 s38 s39 s40 s41 s42 s43 s44 s45 s46 s47 s48 s49 s50 s51 s52 s53 s54 s55 s56 s57 s58 s59 s60 s61 s62 s63 s64 s65 s66 s67 s68 s69 s70 s71 s72 s73 s74 s75 s76 : Value} {w : World} {r : _} (h : loopR s42B0 s42R0 [s0, s3, s4, s5, s6] w = some r) : s42L0 [s0, s1, s2, s3, s4, s5, s6, s7, s8, s9, s10, s11, s12, s13, s14, s15, s16, s17, s18, s19, s20, s21, s22, s23, s24, s25, s26, s27, s28, s29, s30, s31, s32, s33, s34, s35, s36, s37, s38, s39, s40, s41, s42, s43, s44, s45, s46, s47, s48, s49, s50, s51, s52, s53, s54, s55, s56, s57, s58, s59, s60, s61, s62, s63, s64, s65, s66, s67, s68, s69, s70, s71, s72, s73, s74, s75, s76] [] w = some r :=
  loopN_of (B := s42B0) (R := s42R0) (n := 77) (live := [0, 3, 4, 5, 6]) (fun xs w g y hl h => match xs, hl, h with | [x0, x3, x4, x5, x6], _, h => (s42B0eq x0 x3 x4 x5 x6 w g []).trans h) (by kernel_rfl) (s42R0of) (fun i => ([s0, s1, s2, s3, s4, s5, s6, s7, s8, s9, s10, s11, s12, s13, s14, s15, s16, s17, s18, s19, s20, s21, s22, s23, s24, s25, s26, s27, s28, s29, s30, s31, s32, s33, s34, s35, s36, s37, s38, s39, s40, s41, s42, s43, s44, s45, s46, s47, s48, s49, s50, s51, s52, s53, s54, s55, s56, s57, s58, s59, s60, s61, s62, s63, s64, s65, s66, s67, s68, s69, s70, s71, s72, s73, s74, s75, s76] : List Value).getD i undef) (by kernel_rfl) rfl h
theorem s42eq (x0 x1 : Value) (w : World) : evK Try.prog 42 none (bodyOf Try.f42) none _ { tmps := (([x0, x1] : List Value) ++ List.replicate (77 - 2) undef).toArray, defers := [] } w (leaveK Try.prog Try.f42) = s42raw x0 x1 w := by kernel_rfl
theorem c42 {x0 x1 : Value} {w : World} {r : Value × World} (h : s42 x0 x1 w = some r) : C Try.prog 42 #[x0, x1] w = some r :=
  C_ev follows_all drawLaw (by kernel_rfl) Try.func42 (by rfl) ((s42eq x0 x1 w).trans (show s42raw x0 x1 w = some r from (Ev.bind_mono fun (r835 : Value × World) => (Ev.bind_mono fun (v836 : Value) => (condK_mono id (Ev.bind_mono fun (v837 : Value) => (Ev.bind_mono fun (r838 : Value × World) => (Ev.bind_mono fun (v839 : Value) => (condK_mono id (s42L0of)))))))) h))
theorem e42 {x0 x1 : Value} {w : World} {Q : Value × World → Prop} (h : Brings (s42 x0 x1 w) Q) : Brings (Xcall Try.prog (Value.func (Fn.func 42) #[] #[]) #[x0, x1] w) Q :=
  h.call (Xcall_fn Try.func42 (by decide +kernel) (by rfl) _ _ _ w) fun _ h => c42 h

/-! (*lychgate/lychgateref12.Book).Match -/
noncomputable def s43 (x0 x1 x2 : Value) (w : World) : Option (Value × World) :=
  (Xbox Try.prog 37 x1 w).bind fun r893 =>
  (Xalloc Try.prog 25 r893.2).bind fun r894 =>
  (Qload Try.prog 37 r893.1 r894.2).bind fun v895 =>
  (Xcall Try.prog (Value.func (Fn.func 48) #[] #[]) #[x0, v895, x2] r894.2).bind fun r896 =>
  (Qbin Try.prog Go.BinOp.lss 3 r896.1 (Go.Value.int Go.IntKind.i64 0)).bind fun v897 =>
  condK v897 (
    (Qbuild Try.prog 25 #[] r896.2).bind fun v898 =>
    (Xstore Try.prog 25 r894.1 v898 r896.2).bind fun r899 =>
    ((((Qload Try.prog 25 r894.1 r899.2).bind fun v => ((((some [])).map fun vs => (Go.Value.bool false) :: vs)).map fun vs => v :: vs)).map oneOf).map fun v => (v, r899.2)
  ) (
    (Qnil x0).bind fun v900 =>
    (QfieldAddr Try.prog 69 v900 0).bind fun v901 =>
    (Qload Try.prog 32 v901 r896.2).bind fun v902 =>
    (QindexAddr Try.prog 32 v902 r896.1 r896.2).bind fun v903 =>
    (Qload Try.prog 25 v903 r896.2).bind fun v904 =>
    (Xalloc Try.prog 25 r896.2).bind fun r905 =>
    (Xstore Try.prog 25 r905.1 v904 r905.2).bind fun r906 =>
    (Qnil x0).bind fun v907 =>
    (QfieldAddr Try.prog 69 v907 0).bind fun v908 =>
    (Qload Try.prog 32 v908 r906.2.drew).bind fun v909 =>
    (Qslice Try.prog 32 v909 none (some r896.1) none r906.2.drew).bind fun v910 =>
    (Xbi Try.prog Go.Builtin.append #[32, 32] 32 #[(Go.Value.slice none 0 0), v910] r906.2.drew).bind fun r911 =>
    (Qnil x0).bind fun v912 =>
    (QfieldAddr Try.prog 69 v912 0).bind fun v913 =>
    (Qload Try.prog 32 v913 r911.2).bind fun v914 =>
    (Qbin Try.prog Go.BinOp.add 3 r896.1 (Go.Value.int Go.IntKind.i64 1)).bind fun v915 =>
    (Qslice Try.prog 32 v914 (some v915) none none r911.2).bind fun v916 =>
    (Xbi Try.prog Go.Builtin.append #[32, 32] 32 #[r911.1, v916] r911.2).bind fun r917 =>
    chkK ((Qload Try.prog 32 v913 r906.2.drew = some v914 ∧ Qload Try.prog 32 v913 r911.2 = some v914) ∧ ((Qslice Try.prog 32 v914 (some v915) none none r906.2.drew = some v916 ∧ Qslice Try.prog 32 v914 (some v915) none none r911.2 = some v916) ∧ True)) (
      (Qnil x0).bind fun v918 =>
      (QfieldAddr Try.prog 69 v918 0).bind fun v919 =>
      (Xstore Try.prog 32 v919 r917.1 r917.2).bind fun r920 =>
      (Qload Try.prog 25 r905.1 r920.2).bind fun v921 =>
      (Xstore Try.prog 25 r894.1 v921 r920.2).bind fun r922 =>
      ((((Qload Try.prog 25 r894.1 r922.2).bind fun v => ((((some [])).map fun vs => (Go.Value.bool true) :: vs)).map fun vs => v :: vs)).map oneOf).map fun v => (v, r922.2)
    )
  )
theorem s43eq (x0 x1 x2 : Value) (w : World) : evK Try.prog 43 none (bodyOf Try.f43) none _ { tmps := (([x0, x1, x2] : List Value) ++ List.replicate (46 - 3) undef).toArray, defers := [] } w (leaveK Try.prog Try.f43) = s43 x0 x1 x2 w := by kernel_rfl
theorem c43 {x0 x1 x2 : Value} {w : World} {r : Value × World} (h : s43 x0 x1 x2 w = some r) : C Try.prog 43 #[x0, x1, x2] w = some r :=
  C_ev follows_all drawLaw (by kernel_rfl) Try.func43 (by rfl) ((s43eq x0 x1 x2 w).trans h)
theorem e43 {x0 x1 x2 : Value} {w : World} {Q : Value × World → Prop} (h : Brings (s43 x0 x1 x2 w) Q) : Brings (Xcall Try.prog (Value.func (Fn.func 43) #[] #[]) #[x0, x1, x2] w) Q :=
  h.call (Xcall_fn Try.func43 (by decide +kernel) (by rfl) _ _ _ w) fun _ h => c43 h

/-! (*lychgate/lychgateref12.Book).Gone -/
noncomputable def s44K0 : Exit → Act → World → Option (Value × World) := seqK (fun a w => evK Try.prog 44 none (nav [1, 1, 1] (bodyOf Try.f44)) none _ a w (leaveK Try.prog Try.f44)) (leaveK Try.prog Try.f44)
noncomputable def s44K1 : Exit → Act → World → Option (Value × World) := blockK 0 s44K0
noncomputable def s44L0 (s : List Value) (d : List Deferred) (w : World) : Option (Value × World) := loopN Try.prog 44 none (nav [1, 1, 0, 1, 0, 0] (bodyOf Try.f44)) s44K1 s d w
noncomputable def s44B0 : List Value → World → Option (Exit × List Value × World)
  | [x0, x1, x5, x6, x7], w =>
    (Qbin Try.prog Go.BinOp.neq 40 x0 (Go.Value.pointer none)).bind fun v923 =>
    (guardQ v923 true (Qnil (gv (isB v923 true) x0))).bind fun v924 =>
    (guardQ v923 true (QfieldAddr Try.prog 69 v924 0)).bind fun v925 =>
    (guardQ v923 true (Qload Try.prog 32 v925 w)).bind fun v926 =>
    (guardQ v923 true (Qlen Try.prog #[32] 3 #[v926] w)).bind fun v927 =>
    (guardQ v923 true (Qbin Try.prog Go.BinOp.lss 3 (gv (isB v923 true) x7) v927)).bind fun v928 =>
    (Qpick v923 v928 (Go.Value.bool false)).bind fun v929 =>
    condK v929 (
      (Qnil x0).bind fun v930 =>
      (QfieldAddr Try.prog 69 v930 0).bind fun v931 =>
      (Qload Try.prog 32 v931 w).bind fun v932 =>
      (QindexAddr Try.prog 32 v932 x7 w).bind fun v933 =>
      (QfieldAddr Try.prog 25 v933 7).bind fun v934 =>
      (Qload Try.prog 3 v934 w).bind fun v935 =>
      (Qbin Try.prog Go.BinOp.eql 3 v935 x1).bind fun v936 =>
      condK v936 (
        (Qnil x0).bind fun v937 =>
        (QfieldAddr Try.prog 69 v937 0).bind fun v938 =>
        (Qload Try.prog 32 v938 w).bind fun v939 =>
        (QindexAddr Try.prog 32 v939 x7 w).bind fun v940 =>
        (Qload Try.prog 25 v940 w).bind fun v941 =>
        (XbuildSlice Try.prog 32 1 #[(0, v941)] w).bind fun r942 =>
        (Xbi Try.prog Go.Builtin.append #[32, 32] 32 #[x5, r942.1] r942.2).bind fun r943 =>
        (Qbin Try.prog Go.BinOp.add 3 x7 (Go.Value.int Go.IntKind.i64 1)).bind fun v944 =>
        some (Exit.normal, [x0, x1, r943.1, x6, v944], r943.2)
      ) (
        (Qnil x0).bind fun v945 =>
        (QfieldAddr Try.prog 69 v945 0).bind fun v946 =>
        (Qload Try.prog 32 v946 w).bind fun v947 =>
        (QindexAddr Try.prog 32 v947 x7 w).bind fun v948 =>
        (Qload Try.prog 25 v948 w).bind fun v949 =>
        (XbuildSlice Try.prog 32 1 #[(0, v949)] w).bind fun r950 =>
        (Xbi Try.prog Go.Builtin.append #[32, 32] 32 #[x6, r950.1] r950.2).bind fun r951 =>
        (Qbin Try.prog Go.BinOp.add 3 x7 (Go.Value.int Go.IntKind.i64 1)).bind fun v952 =>
        some (Exit.normal, [x0, x1, x5, r951.1, v952], r951.2)
      )
    ) (
      some ((Exit.exit 0), [x0, x1, x5, x6, x7], w)
    )
  | _, _ => none
noncomputable def s44R0 : Exit → List Value → World → Option (Value × World)
  | (Exit.exit 0), [x0, _, x5, x6, _], w =>
    (Qbin Try.prog Go.BinOp.neq 40 x0 (Go.Value.pointer none)).bind fun v953 =>
    condK v953 (
      (Qnil x0).bind fun v954 =>
      (QfieldAddr Try.prog 69 v954 0).bind fun v955 =>
      (Xstore Try.prog 32 v955 x6 w).bind fun r956 =>
      some (x5, r956.2)
    ) (
      some (x5, w)
    )
  | _, _, _ => none
noncomputable def s44raw (x0 x1 : Value) (w : World) : Option (Value × World) :=
  s44L0 [x0, x1, undef, undef, (Go.Value.slice none 0 0), (Go.Value.slice none 0 0), (Go.Value.slice none 0 0), (Go.Value.int Go.IntKind.i64 0), undef, undef, undef, undef, undef, undef, undef, undef, undef, undef, undef, undef, undef, undef, undef, undef, undef, undef, undef, undef, undef, undef, undef, undef, undef, undef, undef, undef, undef, undef, undef, undef, undef, undef, undef, undef, undef, undef, undef, undef, undef, undef, undef, undef, undef, undef, undef, undef, undef, undef] [] w
noncomputable def s44 (x0 x1 : Value) (w : World) : Option (Value × World) :=
  loopR s44B0 s44R0 [x0, x1, (Go.Value.slice none 0 0), (Go.Value.slice none 0 0), (Go.Value.int Go.IntKind.i64 0)] w
theorem s44B0eq (x0 x1 x5 x6 x7 : Value) (w : World) (g : Nat → Value) (d : List Deferred) : evK Try.prog 44 none (nav [1, 1, 0, 1, 0, 0] (bodyOf Try.f44)) none _ (frm 58 (setL [0, 1, 5, 6, 7] [x0, x1, x5, x6, x7] g) d) w (projK [0, 1, 5, 6, 7]) = s44B0 [x0, x1, x5, x6, x7] w := by kernel_rfl
theorem s44R0x0eq (x0 x1 x5 x6 x7 : Value) (g : Nat → Value) (w : World) : s44K1 (Exit.exit 0) (frm 58 (setL [0, 1, 5, 6, 7] [x0, x1, x5, x6, x7] g) []) w = s44R0 (Exit.exit 0) [x0, x1, x5, x6, x7] w := by kernel_rfl
theorem s44R0of : ∀ (e : Exit) (xs : List Value) (w : World) (g : Nat → Value) (y : _), s44R0 e xs w = some y → s44K1 e (frm 58 (setL [0, 1, 5, 6, 7] xs g) []) w = some y := by
  intro e xs w g y h
  unfold s44R0 at h
  split at h
  · exact (s44R0x0eq _ _ _ _ _ g _).trans h
  · cases h
theorem s44L0of {s0 s1 s2 s3 s4 s5 s6 s7 s8 s9 s10 s11 s12 s13 s14 s15 s16 s17 s18 s19 s20 s21 s22 s23 s24 s25 s26 s27 s28 s29 s30 s31 s32 s33 s34 s35 s36 s37 s38 s39 s40 s41 s42 s43 s44 s45 s46 s47 s48 s49 s50 s51 s52 s53 s54 s55 s56 s57 : Value} {w : World} {r : _} (h : loopR s44B0 s44R0 [s0, s1, s5, s6, s7] w = some r) : s44L0 [s0, s1, s2, s3, s4, s5, s6, s7, s8, s9, s10, s11, s12, s13, s14, s15, s16, s17, s18, s19, s20, s21, s22, s23, s24, s25, s26, s27, s28, s29, s30, s31, s32, s33, s34, s35, s36, s37, s38, s39, s40, s41, s42, s43, s44, s45, s46, s47, s48, s49, s50, s51, s52, s53, s54, s55, s56, s57] [] w = some r :=
  loopN_of (B := s44B0) (R := s44R0) (n := 58) (live := [0, 1, 5, 6, 7]) (fun xs w g y hl h => match xs, hl, h with | [x0, x1, x5, x6, x7], _, h => (s44B0eq x0 x1 x5 x6 x7 w g []).trans h) (by kernel_rfl) (s44R0of) (fun i => ([s0, s1, s2, s3, s4, s5, s6, s7, s8, s9, s10, s11, s12, s13, s14, s15, s16, s17, s18, s19, s20, s21, s22, s23, s24, s25, s26, s27, s28, s29, s30, s31, s32, s33, s34, s35, s36, s37, s38, s39, s40, s41, s42, s43, s44, s45, s46, s47, s48, s49, s50, s51, s52, s53, s54, s55, s56, s57] : List Value).getD i undef) (by kernel_rfl) rfl h
theorem s44eq (x0 x1 : Value) (w : World) : evK Try.prog 44 none (bodyOf Try.f44) none _ { tmps := (([x0, x1] : List Value) ++ List.replicate (58 - 2) undef).toArray, defers := [] } w (leaveK Try.prog Try.f44) = s44raw x0 x1 w := by kernel_rfl
theorem c44 {x0 x1 : Value} {w : World} {r : Value × World} (h : s44 x0 x1 w = some r) : C Try.prog 44 #[x0, x1] w = some r :=
  C_ev follows_all drawLaw (by kernel_rfl) Try.func44 (by rfl) ((s44eq x0 x1 w).trans (show s44raw x0 x1 w = some r from (s44L0of) h))
theorem e44 {x0 x1 : Value} {w : World} {Q : Value × World → Prop} (h : Brings (s44 x0 x1 w) Q) : Brings (Xcall Try.prog (Value.func (Fn.func 44) #[] #[]) #[x0, x1] w) Q :=
  h.call (Xcall_fn Try.func44 (by decide +kernel) (by rfl) _ _ _ w) fun _ h => c44 h

/-! (*lychgate/lychgateref12.Book).Due -/
noncomputable def s45K0 : Exit → Act → World → Option (Value × World) := seqK (fun a w => evK Try.prog 45 none (nav [1, 1, 1] (bodyOf Try.f45)) none _ a w (leaveK Try.prog Try.f45)) (leaveK Try.prog Try.f45)
noncomputable def s45K1 : Exit → Act → World → Option (Value × World) := blockK 0 s45K0
noncomputable def s45L0 (s : List Value) (d : List Deferred) (w : World) : Option (Value × World) := loopN Try.prog 45 none (nav [1, 1, 0, 1, 0, 0] (bodyOf Try.f45)) s45K1 s d w
noncomputable def s45B0 : List Value → World → Option (Exit × List Value × World)
  | [x0, x1, x5, x6, x7], w =>
    (Qbin Try.prog Go.BinOp.neq 40 x0 (Go.Value.pointer none)).bind fun v957 =>
    (guardQ v957 true (Qnil (gv (isB v957 true) x0))).bind fun v958 =>
    (guardQ v957 true (QfieldAddr Try.prog 69 v958 0)).bind fun v959 =>
    (guardQ v957 true (Qload Try.prog 32 v959 w)).bind fun v960 =>
    (guardQ v957 true (Qlen Try.prog #[32] 3 #[v960] w)).bind fun v961 =>
    (guardQ v957 true (Qbin Try.prog Go.BinOp.lss 3 (gv (isB v957 true) x7) v961)).bind fun v962 =>
    (Qpick v957 v962 (Go.Value.bool false)).bind fun v963 =>
    condK v963 (
      (Qnil x0).bind fun v964 =>
      (QfieldAddr Try.prog 69 v964 0).bind fun v965 =>
      (Qload Try.prog 32 v965 w).bind fun v966 =>
      (QindexAddr Try.prog 32 v966 x7 w).bind fun v967 =>
      (QfieldAddr Try.prog 25 v967 8).bind fun v968 =>
      (Qload Try.prog 3 v968 w).bind fun v969 =>
      (Qbin Try.prog Go.BinOp.leq 3 v969 x1).bind fun v970 =>
      condK v970 (
        (Qnil x0).bind fun v971 =>
        (QfieldAddr Try.prog 69 v971 0).bind fun v972 =>
        (Qload Try.prog 32 v972 w).bind fun v973 =>
        (QindexAddr Try.prog 32 v973 x7 w).bind fun v974 =>
        (Qload Try.prog 25 v974 w).bind fun v975 =>
        (XbuildSlice Try.prog 32 1 #[(0, v975)] w).bind fun r976 =>
        (Xbi Try.prog Go.Builtin.append #[32, 32] 32 #[x5, r976.1] r976.2).bind fun r977 =>
        (Qbin Try.prog Go.BinOp.add 3 x7 (Go.Value.int Go.IntKind.i64 1)).bind fun v978 =>
        some (Exit.normal, [x0, x1, r977.1, x6, v978], r977.2)
      ) (
        (Qnil x0).bind fun v979 =>
        (QfieldAddr Try.prog 69 v979 0).bind fun v980 =>
        (Qload Try.prog 32 v980 w).bind fun v981 =>
        (QindexAddr Try.prog 32 v981 x7 w).bind fun v982 =>
        (Qload Try.prog 25 v982 w).bind fun v983 =>
        (XbuildSlice Try.prog 32 1 #[(0, v983)] w).bind fun r984 =>
        (Xbi Try.prog Go.Builtin.append #[32, 32] 32 #[x6, r984.1] r984.2).bind fun r985 =>
        (Qbin Try.prog Go.BinOp.add 3 x7 (Go.Value.int Go.IntKind.i64 1)).bind fun v986 =>
        some (Exit.normal, [x0, x1, x5, r985.1, v986], r985.2)
      )
    ) (
      some ((Exit.exit 0), [x0, x1, x5, x6, x7], w)
    )
  | _, _ => none
noncomputable def s45R0 : Exit → List Value → World → Option (Value × World)
  | (Exit.exit 0), [x0, _, x5, x6, _], w =>
    (Qbin Try.prog Go.BinOp.neq 40 x0 (Go.Value.pointer none)).bind fun v987 =>
    condK v987 (
      (Qnil x0).bind fun v988 =>
      (QfieldAddr Try.prog 69 v988 0).bind fun v989 =>
      (Xstore Try.prog 32 v989 x6 w).bind fun r990 =>
      some (x5, r990.2)
    ) (
      some (x5, w)
    )
  | _, _, _ => none
noncomputable def s45raw (x0 x1 : Value) (w : World) : Option (Value × World) :=
  s45L0 [x0, x1, undef, undef, (Go.Value.slice none 0 0), (Go.Value.slice none 0 0), (Go.Value.slice none 0 0), (Go.Value.int Go.IntKind.i64 0), undef, undef, undef, undef, undef, undef, undef, undef, undef, undef, undef, undef, undef, undef, undef, undef, undef, undef, undef, undef, undef, undef, undef, undef, undef, undef, undef, undef, undef, undef, undef, undef, undef, undef, undef, undef, undef, undef, undef, undef, undef, undef, undef, undef, undef, undef, undef, undef, undef, undef] [] w
noncomputable def s45 (x0 x1 : Value) (w : World) : Option (Value × World) :=
  loopR s45B0 s45R0 [x0, x1, (Go.Value.slice none 0 0), (Go.Value.slice none 0 0), (Go.Value.int Go.IntKind.i64 0)] w
theorem s45B0eq (x0 x1 x5 x6 x7 : Value) (w : World) (g : Nat → Value) (d : List Deferred) : evK Try.prog 45 none (nav [1, 1, 0, 1, 0, 0] (bodyOf Try.f45)) none _ (frm 58 (setL [0, 1, 5, 6, 7] [x0, x1, x5, x6, x7] g) d) w (projK [0, 1, 5, 6, 7]) = s45B0 [x0, x1, x5, x6, x7] w := by kernel_rfl
theorem s45R0x0eq (x0 x1 x5 x6 x7 : Value) (g : Nat → Value) (w : World) : s45K1 (Exit.exit 0) (frm 58 (setL [0, 1, 5, 6, 7] [x0, x1, x5, x6, x7] g) []) w = s45R0 (Exit.exit 0) [x0, x1, x5, x6, x7] w := by kernel_rfl
theorem s45R0of : ∀ (e : Exit) (xs : List Value) (w : World) (g : Nat → Value) (y : _), s45R0 e xs w = some y → s45K1 e (frm 58 (setL [0, 1, 5, 6, 7] xs g) []) w = some y := by
  intro e xs w g y h
  unfold s45R0 at h
  split at h
  · exact (s45R0x0eq _ _ _ _ _ g _).trans h
  · cases h
theorem s45L0of {s0 s1 s2 s3 s4 s5 s6 s7 s8 s9 s10 s11 s12 s13 s14 s15 s16 s17 s18 s19 s20 s21 s22 s23 s24 s25 s26 s27 s28 s29 s30 s31 s32 s33 s34 s35 s36 s37 s38 s39 s40 s41 s42 s43 s44 s45 s46 s47 s48 s49 s50 s51 s52 s53 s54 s55 s56 s57 : Value} {w : World} {r : _} (h : loopR s45B0 s45R0 [s0, s1, s5, s6, s7] w = some r) : s45L0 [s0, s1, s2, s3, s4, s5, s6, s7, s8, s9, s10, s11, s12, s13, s14, s15, s16, s17, s18, s19, s20, s21, s22, s23, s24, s25, s26, s27, s28, s29, s30, s31, s32, s33, s34, s35, s36, s37, s38, s39, s40, s41, s42, s43, s44, s45, s46, s47, s48, s49, s50, s51, s52, s53, s54, s55, s56, s57] [] w = some r :=
  loopN_of (B := s45B0) (R := s45R0) (n := 58) (live := [0, 1, 5, 6, 7]) (fun xs w g y hl h => match xs, hl, h with | [x0, x1, x5, x6, x7], _, h => (s45B0eq x0 x1 x5 x6 x7 w g []).trans h) (by kernel_rfl) (s45R0of) (fun i => ([s0, s1, s2, s3, s4, s5, s6, s7, s8, s9, s10, s11, s12, s13, s14, s15, s16, s17, s18, s19, s20, s21, s22, s23, s24, s25, s26, s27, s28, s29, s30, s31, s32, s33, s34, s35, s36, s37, s38, s39, s40, s41, s42, s43, s44, s45, s46, s47, s48, s49, s50, s51, s52, s53, s54, s55, s56, s57] : List Value).getD i undef) (by kernel_rfl) rfl h
theorem s45eq (x0 x1 : Value) (w : World) : evK Try.prog 45 none (bodyOf Try.f45) none _ { tmps := (([x0, x1] : List Value) ++ List.replicate (58 - 2) undef).toArray, defers := [] } w (leaveK Try.prog Try.f45) = s45raw x0 x1 w := by kernel_rfl
theorem c45 {x0 x1 : Value} {w : World} {r : Value × World} (h : s45 x0 x1 w = some r) : C Try.prog 45 #[x0, x1] w = some r :=
  C_ev follows_all drawLaw (by kernel_rfl) Try.func45 (by rfl) ((s45eq x0 x1 w).trans (show s45raw x0 x1 w = some r from (s45L0of) h))
theorem e45 {x0 x1 : Value} {w : World} {Q : Value × World → Prop} (h : Brings (s45 x0 x1 w) Q) : Brings (Xcall Try.prog (Value.func (Fn.func 45) #[] #[]) #[x0, x1] w) Q :=
  h.call (Xcall_fn Try.func45 (by decide +kernel) (by rfl) _ _ _ w) fun _ h => c45 h

/-! slices.IndexFunc[[]lychgate/api.Expect,lychgate/api.Expect] -/
noncomputable def s46K0 : Exit → Act → World → Option (Value × World) := seqK (fun a w => evK Try.prog 46 none (nav [1, 1] (bodyOf Try.f46)) none _ a w (leaveK Try.prog Try.f46)) (leaveK Try.prog Try.f46)
noncomputable def s46K1 : Exit → Act → World → Option (Value × World) := blockK 0 s46K0
noncomputable def s46L0 (s : List Value) (d : List Deferred) (w : World) : Option (Value × World) := loopN Try.prog 46 none (nav [1, 0, 1, 0, 0] (bodyOf Try.f46)) s46K1 s d w
noncomputable def s46B0 : List Value → World → Option (Exit × List Value × World)
  | [x0, x1, x4, x7, x8], w =>
    (Qbin Try.prog Go.BinOp.lss 3 x8 x7).bind fun v992 =>
    condK v992 (
      (QindexAddr Try.prog 32 x0 x8 w).bind fun v993 =>
      (Qload Try.prog 25 v993 w).bind fun v994 =>
      (Xcall Try.prog x1 #[v994] w).bind fun r995 =>
      condK r995.1 (
        some (Exit.ret, [x0, x1, x8, x7, x8], r995.2)
      ) (
        (Qbin Try.prog Go.BinOp.add 3 x8 (Go.Value.int Go.IntKind.i64 1)).bind fun v996 =>
        some (Exit.normal, [x0, x1, x4, x7, v996], r995.2)
      )
    ) (
      some ((Exit.exit 0), [x0, x1, x4, x7, x8], w)
    )
  | _, _ => none
noncomputable def s46R0 : Exit → List Value → World → Option (Value × World)
  | (Exit.exit 0), [_, _, _, _, _], w =>
    some ((Go.Value.int Go.IntKind.i64 (-1)), w)
  | Exit.ret, [_, _, x4, _, _], w =>
    some (x4, w)
  | _, _, _ => none
noncomputable def s46raw (x0 x1 : Value) (w : World) : Option (Value × World) :=
  (Qlen Try.prog #[32] 3 #[x0] w).bind fun v991 =>
  s46L0 [x0, x1, undef, undef, (Go.Value.int Go.IntKind.i64 0), undef, x0, v991, (Go.Value.int Go.IntKind.i64 0), undef, undef, undef, undef, undef, undef, undef, undef, undef, undef] [] w
noncomputable def s46 (x0 x1 : Value) (w : World) : Option (Value × World) :=
  (Qlen Try.prog #[32] 3 #[x0] w).bind fun v991 =>
  loopR s46B0 s46R0 [x0, x1, (Go.Value.int Go.IntKind.i64 0), v991, (Go.Value.int Go.IntKind.i64 0)] w
theorem s46B0eq (x0 x1 x4 x7 x8 : Value) (w : World) (g : Nat → Value) (d : List Deferred) : evK Try.prog 46 none (nav [1, 0, 1, 0, 0] (bodyOf Try.f46)) none _ (frm 19 (setL [0, 1, 4, 7, 8] [x0, x1, x4, x7, x8] g) d) w (projK [0, 1, 4, 7, 8]) = s46B0 [x0, x1, x4, x7, x8] w := by kernel_rfl
theorem s46R0x0eq (x0 x1 x4 x7 x8 : Value) (g : Nat → Value) (w : World) : s46K1 (Exit.exit 0) (frm 19 (setL [0, 1, 4, 7, 8] [x0, x1, x4, x7, x8] g) []) w = s46R0 (Exit.exit 0) [x0, x1, x4, x7, x8] w := by kernel_rfl
theorem s46R0ret_eq (x0 x1 x4 x7 x8 : Value) (g : Nat → Value) (w : World) : s46K1 Exit.ret (frm 19 (setL [0, 1, 4, 7, 8] [x0, x1, x4, x7, x8] g) []) w = s46R0 Exit.ret [x0, x1, x4, x7, x8] w := by kernel_rfl
theorem s46R0of : ∀ (e : Exit) (xs : List Value) (w : World) (g : Nat → Value) (y : _), s46R0 e xs w = some y → s46K1 e (frm 19 (setL [0, 1, 4, 7, 8] xs g) []) w = some y := by
  intro e xs w g y h
  unfold s46R0 at h
  split at h
  · exact (s46R0x0eq _ _ _ _ _ g _).trans h
  · exact (s46R0ret_eq _ _ _ _ _ g _).trans h
  · cases h
theorem s46L0of {s0 s1 s2 s3 s4 s5 s6 s7 s8 s9 s10 s11 s12 s13 s14 s15 s16 s17 s18 : Value} {w : World} {r : _} (h : loopR s46B0 s46R0 [s0, s1, s4, s7, s8] w = some r) : s46L0 [s0, s1, s2, s3, s4, s5, s6, s7, s8, s9, s10, s11, s12, s13, s14, s15, s16, s17, s18] [] w = some r :=
  loopN_of (B := s46B0) (R := s46R0) (n := 19) (live := [0, 1, 4, 7, 8]) (fun xs w g y hl h => match xs, hl, h with | [x0, x1, x4, x7, x8], _, h => (s46B0eq x0 x1 x4 x7 x8 w g []).trans h) (by kernel_rfl) (s46R0of) (fun i => ([s0, s1, s2, s3, s4, s5, s6, s7, s8, s9, s10, s11, s12, s13, s14, s15, s16, s17, s18] : List Value).getD i undef) (by kernel_rfl) rfl h
theorem s46eq (x0 x1 : Value) (w : World) : evK Try.prog 46 none (bodyOf Try.f46) none _ { tmps := (([x0, x1] : List Value) ++ List.replicate (19 - 2) undef).toArray, defers := [] } w (leaveK Try.prog Try.f46) = s46raw x0 x1 w := by kernel_rfl
theorem c46 {x0 x1 : Value} {w : World} {r : Value × World} (h : s46 x0 x1 w = some r) : C Try.prog 46 #[x0, x1] w = some r :=
  C_ev follows_all drawLaw (by kernel_rfl) Try.func46 (by rfl) ((s46eq x0 x1 w).trans (show s46raw x0 x1 w = some r from (Ev.bind_mono fun (v991 : Value) => (s46L0of)) h))
theorem e46 {x0 x1 : Value} {w : World} {Q : Value × World → Prop} (h : Brings (s46 x0 x1 w) Q) : Brings (Xcall Try.prog (Value.func (Fn.func 46) #[] #[]) #[x0, x1] w) Q :=
  h.call (Xcall_fn Try.func46 (by decide +kernel) (by rfl) _ _ _ w) fun _ h => c46 h

/-! slices.Index[[]byte,byte] -/
noncomputable def s47K0 : Exit → Act → World → Option (Value × World) := seqK (fun a w => evK Try.prog 47 none (nav [1, 1] (bodyOf Try.f47)) none _ a w (leaveK Try.prog Try.f47)) (leaveK Try.prog Try.f47)
noncomputable def s47K1 : Exit → Act → World → Option (Value × World) := blockK 0 s47K0
noncomputable def s47L0 (s : List Value) (d : List Deferred) (w : World) : Option (Value × World) := loopN Try.prog 47 none (nav [1, 0, 1, 0, 0] (bodyOf Try.f47)) s47K1 s d w
noncomputable def s47B0 : List Value → World → Option (Exit × List Value × World)
  | [x0, x1, x4, x7, x8], w =>
    (Qbin Try.prog Go.BinOp.lss 3 x8 x7).bind fun v998 =>
    condK v998 (
      (QindexAddr Try.prog 63 x0 x8 w).bind fun v999 =>
      (Qload Try.prog 5 v999 w).bind fun v1000 =>
      (Qbin Try.prog Go.BinOp.eql 5 x1 v1000).bind fun v1001 =>
      condK v1001 (
        some (Exit.ret, [x0, x1, x8, x7, x8], w)
      ) (
        (Qbin Try.prog Go.BinOp.add 3 x8 (Go.Value.int Go.IntKind.i64 1)).bind fun v1002 =>
        some (Exit.normal, [x0, x1, x4, x7, v1002], w)
      )
    ) (
      some ((Exit.exit 0), [x0, x1, x4, x7, x8], w)
    )
  | _, _ => none
noncomputable def s47R0 : Exit → List Value → World → Option (Value × World)
  | (Exit.exit 0), [_, _, _, _, _], w =>
    some ((Go.Value.int Go.IntKind.i64 (-1)), w)
  | Exit.ret, [_, _, x4, _, _], w =>
    some (x4, w)
  | _, _, _ => none
noncomputable def s47raw (x0 x1 : Value) (w : World) : Option (Value × World) :=
  (Qlen Try.prog #[63] 3 #[x0] w).bind fun v997 =>
  s47L0 [x0, x1, undef, undef, (Go.Value.int Go.IntKind.i64 0), undef, x0, v997, (Go.Value.int Go.IntKind.i64 0), undef, undef, undef, undef, undef, undef, undef, undef, undef, undef] [] w
noncomputable def s47 (x0 x1 : Value) (w : World) : Option (Value × World) :=
  (Qlen Try.prog #[63] 3 #[x0] w).bind fun v997 =>
  loopR s47B0 s47R0 [x0, x1, (Go.Value.int Go.IntKind.i64 0), v997, (Go.Value.int Go.IntKind.i64 0)] w
theorem s47B0eq (x0 x1 x4 x7 x8 : Value) (w : World) (g : Nat → Value) (d : List Deferred) : evK Try.prog 47 none (nav [1, 0, 1, 0, 0] (bodyOf Try.f47)) none _ (frm 19 (setL [0, 1, 4, 7, 8] [x0, x1, x4, x7, x8] g) d) w (projK [0, 1, 4, 7, 8]) = s47B0 [x0, x1, x4, x7, x8] w := by kernel_rfl
theorem s47R0x0eq (x0 x1 x4 x7 x8 : Value) (g : Nat → Value) (w : World) : s47K1 (Exit.exit 0) (frm 19 (setL [0, 1, 4, 7, 8] [x0, x1, x4, x7, x8] g) []) w = s47R0 (Exit.exit 0) [x0, x1, x4, x7, x8] w := by kernel_rfl
theorem s47R0ret_eq (x0 x1 x4 x7 x8 : Value) (g : Nat → Value) (w : World) : s47K1 Exit.ret (frm 19 (setL [0, 1, 4, 7, 8] [x0, x1, x4, x7, x8] g) []) w = s47R0 Exit.ret [x0, x1, x4, x7, x8] w := by kernel_rfl
theorem s47R0of : ∀ (e : Exit) (xs : List Value) (w : World) (g : Nat → Value) (y : _), s47R0 e xs w = some y → s47K1 e (frm 19 (setL [0, 1, 4, 7, 8] xs g) []) w = some y := by
  intro e xs w g y h
  unfold s47R0 at h
  split at h
  · exact (s47R0x0eq _ _ _ _ _ g _).trans h
  · exact (s47R0ret_eq _ _ _ _ _ g _).trans h
  · cases h
theorem s47L0of {s0 s1 s2 s3 s4 s5 s6 s7 s8 s9 s10 s11 s12 s13 s14 s15 s16 s17 s18 : Value} {w : World} {r : _} (h : loopR s47B0 s47R0 [s0, s1, s4, s7, s8] w = some r) : s47L0 [s0, s1, s2, s3, s4, s5, s6, s7, s8, s9, s10, s11, s12, s13, s14, s15, s16, s17, s18] [] w = some r :=
  loopN_of (B := s47B0) (R := s47R0) (n := 19) (live := [0, 1, 4, 7, 8]) (fun xs w g y hl h => match xs, hl, h with | [x0, x1, x4, x7, x8], _, h => (s47B0eq x0 x1 x4 x7 x8 w g []).trans h) (by kernel_rfl) (s47R0of) (fun i => ([s0, s1, s2, s3, s4, s5, s6, s7, s8, s9, s10, s11, s12, s13, s14, s15, s16, s17, s18] : List Value).getD i undef) (by kernel_rfl) rfl h
theorem s47eq (x0 x1 : Value) (w : World) : evK Try.prog 47 none (bodyOf Try.f47) none _ { tmps := (([x0, x1] : List Value) ++ List.replicate (19 - 2) undef).toArray, defers := [] } w (leaveK Try.prog Try.f47) = s47raw x0 x1 w := by kernel_rfl
theorem c47 {x0 x1 : Value} {w : World} {r : Value × World} (h : s47 x0 x1 w = some r) : C Try.prog 47 #[x0, x1] w = some r :=
  C_ev follows_all drawLaw (by kernel_rfl) Try.func47 (by rfl) ((s47eq x0 x1 w).trans (show s47raw x0 x1 w = some r from (Ev.bind_mono fun (v997 : Value) => (s47L0of)) h))
theorem e47 {x0 x1 : Value} {w : World} {Q : Value × World → Prop} (h : Brings (s47 x0 x1 w) Q) : Brings (Xcall Try.prog (Value.func (Fn.func 47) #[] #[]) #[x0, x1] w) Q :=
  h.call (Xcall_fn Try.func47 (by decide +kernel) (by rfl) _ _ _ w) fun _ h => c47 h

/-! (*lychgate/lychgateref12.Book).find -/
noncomputable def s48K0 : Exit → Act → World → Option (Value × World) := seqK (fun a w => evK Try.prog 48 none (nav [1, 1] (bodyOf Try.f48)) none _ a w (leaveK Try.prog Try.f48)) (leaveK Try.prog Try.f48)
noncomputable def s48K1 : Exit → Act → World → Option (Value × World) := blockK 0 s48K0
noncomputable def s48L0 (s : List Value) (d : List Deferred) (w : World) : Option (Value × World) := loopN Try.prog 48 none (nav [1, 0, 1, 0, 0] (bodyOf Try.f48)) s48K1 s d w
noncomputable def s48B0 : List Value → World → Option (Exit × List Value × World)
  | [x0, x2, x4, x6, x7], w =>
    (Qbin Try.prog Go.BinOp.neq 40 x0 (Go.Value.pointer none)).bind fun v1004 =>
    (guardQ v1004 true (Qnil (gv (isB v1004 true) x0))).bind fun v1005 =>
    (guardQ v1004 true (QfieldAddr Try.prog 69 v1005 0)).bind fun v1006 =>
    (guardQ v1004 true (Qload Try.prog 32 v1006 w)).bind fun v1007 =>
    (guardQ v1004 true (Qlen Try.prog #[32] 3 #[v1007] w)).bind fun v1008 =>
    (guardQ v1004 true (Qbin Try.prog Go.BinOp.lss 3 (gv (isB v1004 true) x7) v1008)).bind fun v1009 =>
    (Qpick v1004 v1009 (Go.Value.bool false)).bind fun v1010 =>
    condK v1010 (
      (Qnil x0).bind fun v1011 =>
      (QfieldAddr Try.prog 69 v1011 0).bind fun v1012 =>
      (Qload Try.prog 32 v1012 w).bind fun v1013 =>
      (QindexAddr Try.prog 32 v1013 x7 w).bind fun v1014 =>
      (Qload Try.prog 25 v1014 w).bind fun v1015 =>
      (Xalloc Try.prog 25 w).bind fun r1016 =>
      (Xstore Try.prog 25 r1016.1 v1015 r1016.2).bind fun r1017 =>
      (QfieldAddr Try.prog 25 r1016.1 0).bind fun v1018 =>
      (Qload Try.prog 5 v1018 r1017.2).bind fun v1019 =>
      (QfieldAddr Try.prog 37 x4 0).bind fun v1020 =>
      (Qload Try.prog 5 v1020 r1017.2).bind fun v1021 =>
      (Qbin Try.prog Go.BinOp.eql 5 v1019 v1021).bind fun v1022 =>
      (guardQ v1022 true (QfieldAddr Try.prog 25 r1016.1 2)).bind fun v1023 =>
      (guardQ v1022 true (Qload Try.prog 22 v1023 r1017.2)).bind fun v1024 =>
      (guardQ v1022 true (QfieldAddr Try.prog 37 x4 2)).bind fun v1025 =>
      (guardQ v1022 true (Qload Try.prog 22 v1025 r1017.2)).bind fun v1026 =>
      (guardQ v1022 true (Qbin Try.prog Go.BinOp.eql 22 v1024 v1026)).bind fun v1027 =>
      (Qpick v1022 v1027 (Go.Value.bool false)).bind fun v1028 =>
      (guardQ v1028 true (QfieldAddr Try.prog 25 r1016.1 4)).bind fun v1029 =>
      (guardQ v1028 true (Qload Try.prog 23 v1029 r1017.2)).bind fun v1030 =>
      (guardQ v1028 true (QfieldAddr Try.prog 37 x4 4)).bind fun v1031 =>
      (guardQ v1028 true (Qload Try.prog 23 v1031 r1017.2)).bind fun v1032 =>
      (guardQ v1028 true (Qbin Try.prog Go.BinOp.eql 23 v1030 v1032)).bind fun v1033 =>
      (Qpick v1028 v1033 (Go.Value.bool false)).bind fun v1034 =>
      (guardQ v1034 true (QfieldAddr Try.prog 25 r1016.1 1)).bind fun v1035 =>
      (guardQ v1034 true (Qload Try.prog 22 v1035 r1017.2)).bind fun v1036 =>
      (guardQ v1034 true (Qbin Try.prog Go.BinOp.eql 22 v1036 (Go.Value.int Go.IntKind.u32 0))).bind fun v1037 =>
      (guardQ (gv (isB v1034 true) v1037) false (QfieldAddr Try.prog 25 r1016.1 1)).bind fun v1038 =>
      (guardQ (gv (isB v1034 true) v1037) false (Qload Try.prog 22 v1038 r1017.2)).bind fun v1039 =>
      (guardQ (gv (isB v1034 true) v1037) false (QfieldAddr Try.prog 37 x4 1)).bind fun v1040 =>
      (guardQ (gv (isB v1034 true) v1037) false (Qload Try.prog 22 v1040 r1017.2)).bind fun v1041 =>
      (guardQ (gv (isB v1034 true) v1037) false (Qbin Try.prog Go.BinOp.eql 22 v1039 v1041)).bind fun v1042 =>
      (guardQ v1034 true (Qpick (gv (isB v1034 true) v1037) (Go.Value.bool true) v1042)).bind fun v1043 =>
      (Qpick v1034 v1043 (Go.Value.bool false)).bind fun v1044 =>
      (guardQ v1044 true (QfieldAddr Try.prog 25 r1016.1 8)).bind fun v1045 =>
      (guardQ v1044 true (Qload Try.prog 3 v1045 r1017.2)).bind fun v1046 =>
      (guardQ v1044 true (Qbin Try.prog Go.BinOp.gtr 3 v1046 (gv (isB v1044 true) x2))).bind fun v1047 =>
      (Qpick v1044 v1047 (Go.Value.bool false)).bind fun v1048 =>
      condK v1048 (
        some (Exit.ret, [x0, x2, x4, x7, x7], r1017.2)
      ) (
        (Qbin Try.prog Go.BinOp.add 3 x7 (Go.Value.int Go.IntKind.i64 1)).bind fun v1049 =>
        some (Exit.normal, [x0, x2, x4, x6, v1049], r1017.2)
      )
    ) (
      some ((Exit.exit 0), [x0, x2, x4, x6, x7], w)
    )
  | _, _ => none
noncomputable def s48R0 : Exit → List Value → World → Option (Value × World)
  | (Exit.exit 0), [_, _, _, _, _], w =>
    some ((Go.Value.int Go.IntKind.i64 (-1)), w)
  | Exit.ret, [_, _, _, x6, _], w =>
    some (x6, w)
  | _, _, _ => none
noncomputable def s48raw (x0 x1 x2 : Value) (w : World) : Option (Value × World) :=
  (Xbox Try.prog 37 x1 w).bind fun r1003 =>
  s48L0 [x0, x1, x2, undef, r1003.1, undef, (Go.Value.int Go.IntKind.i64 0), (Go.Value.int Go.IntKind.i64 0), undef, undef, undef, undef, undef, undef, undef, undef, undef, undef, undef, undef, undef, undef, undef, undef, undef, undef, undef, undef, undef, undef, undef, undef, undef, undef, undef, undef, undef, undef, undef, undef, undef, undef, undef, undef, undef, undef, undef, undef, undef, undef, undef, undef, undef, undef, undef, undef, undef, undef, undef, undef, undef, undef, undef, undef, undef, undef, undef] [] r1003.2
noncomputable def s48 (x0 x1 x2 : Value) (w : World) : Option (Value × World) :=
  (Xbox Try.prog 37 x1 w).bind fun r1003 =>
  loopR s48B0 s48R0 [x0, x2, r1003.1, (Go.Value.int Go.IntKind.i64 0), (Go.Value.int Go.IntKind.i64 0)] r1003.2
theorem s48B0eq (x0 x2 x4 x6 x7 : Value) (w : World) (g : Nat → Value) (d : List Deferred) : evK Try.prog 48 none (nav [1, 0, 1, 0, 0] (bodyOf Try.f48)) none _ (frm 67 (setL [0, 2, 4, 6, 7] [x0, x2, x4, x6, x7] g) d) w (projK [0, 2, 4, 6, 7]) = s48B0 [x0, x2, x4, x6, x7] w := by kernel_rfl
theorem s48R0x0eq (x0 x2 x4 x6 x7 : Value) (g : Nat → Value) (w : World) : s48K1 (Exit.exit 0) (frm 67 (setL [0, 2, 4, 6, 7] [x0, x2, x4, x6, x7] g) []) w = s48R0 (Exit.exit 0) [x0, x2, x4, x6, x7] w := by kernel_rfl
theorem s48R0ret_eq (x0 x2 x4 x6 x7 : Value) (g : Nat → Value) (w : World) : s48K1 Exit.ret (frm 67 (setL [0, 2, 4, 6, 7] [x0, x2, x4, x6, x7] g) []) w = s48R0 Exit.ret [x0, x2, x4, x6, x7] w := by kernel_rfl
theorem s48R0of : ∀ (e : Exit) (xs : List Value) (w : World) (g : Nat → Value) (y : _), s48R0 e xs w = some y → s48K1 e (frm 67 (setL [0, 2, 4, 6, 7] xs g) []) w = some y := by
  intro e xs w g y h
  unfold s48R0 at h
  split at h
  · exact (s48R0x0eq _ _ _ _ _ g _).trans h
  · exact (s48R0ret_eq _ _ _ _ _ g _).trans h
  · cases h
theorem s48L0of {s0 s1 s2 s3 s4 s5 s6 s7 s8 s9 s10 s11 s12 s13 s14 s15 s16 s17 s18 s19 s20 s21 s22 s23 s24 s25 s26 s27 s28 s29 s30 s31 s32 s33 s34 s35 s36 s37 s38 s39 s40 s41 s42 s43 s44 s45 s46 s47 s48 s49 s50 s51 s52 s53 s54 s55 s56 s57 s58 s59 s60 s61 s62 s63 s64 s65 s66 : Value} {w : World} {r : _} (h : loopR s48B0 s48R0 [s0, s2, s4, s6, s7] w = some r) : s48L0 [s0, s1, s2, s3, s4, s5, s6, s7, s8, s9, s10, s11, s12, s13, s14, s15, s16, s17, s18, s19, s20, s21, s22, s23, s24, s25, s26, s27, s28, s29, s30, s31, s32, s33, s34, s35, s36, s37, s38, s39, s40, s41, s42, s43, s44, s45, s46, s47, s48, s49, s50, s51, s52, s53, s54, s55, s56, s57, s58, s59, s60, s61, s62, s63, s64, s65, s66] [] w = some r :=
  loopN_of (B := s48B0) (R := s48R0) (n := 67) (live := [0, 2, 4, 6, 7]) (fun xs w g y hl h => match xs, hl, h with | [x0, x2, x4, x6, x7], _, h => (s48B0eq x0 x2 x4 x6 x7 w g []).trans h) (by kernel_rfl) (s48R0of) (fun i => ([s0, s1, s2, s3, s4, s5, s6, s7, s8, s9, s10, s11, s12, s13, s14, s15, s16, s17, s18, s19, s20, s21, s22, s23, s24, s25, s26, s27, s28, s29, s30, s31, s32, s33, s34, s35, s36, s37, s38, s39, s40, s41, s42, s43, s44, s45, s46, s47, s48, s49, s50, s51, s52, s53, s54, s55, s56, s57, s58, s59, s60, s61, s62, s63, s64, s65, s66] : List Value).getD i undef) (by kernel_rfl) rfl h
theorem s48eq (x0 x1 x2 : Value) (w : World) : evK Try.prog 48 none (bodyOf Try.f48) none _ { tmps := (([x0, x1, x2] : List Value) ++ List.replicate (67 - 3) undef).toArray, defers := [] } w (leaveK Try.prog Try.f48) = s48raw x0 x1 x2 w := by kernel_rfl
theorem c48 {x0 x1 x2 : Value} {w : World} {r : Value × World} (h : s48 x0 x1 x2 w = some r) : C Try.prog 48 #[x0, x1, x2] w = some r :=
  C_ev follows_all drawLaw (by kernel_rfl) Try.func48 (by rfl) ((s48eq x0 x1 x2 w).trans (show s48raw x0 x1 x2 w = some r from (Ev.bind_mono fun (r1003 : Value × World) => (s48L0of)) h))
theorem e48 {x0 x1 x2 : Value} {w : World} {Q : Value × World → Prop} (h : Brings (s48 x0 x1 x2 w) Q) : Brings (Xcall Try.prog (Value.func (Fn.func 48) #[] #[]) #[x0, x1, x2] w) Q :=
  h.call (Xcall_fn Try.func48 (by decide +kernel) (by rfl) _ _ _ w) fun _ h => c48 h

/-! (*lychgate/expect.Book).at$1 -/
noncomputable def s49 (x0 x1 x2 : Value) (w : World) : Option (Value × World) :=
  (Xbox Try.prog 25 x0 w).bind fun r1050 =>
  (QfieldAddr Try.prog 25 r1050.1 1).bind fun v1051 =>
  (Qload Try.prog 22 v1051 r1050.2).bind fun v1052 =>
  (Qbin Try.prog Go.BinOp.eql 22 v1052 (Go.Value.int Go.IntKind.u32 0)).bind fun v1053 =>
  (guardQ v1053 false (QfieldAddr Try.prog 25 r1050.1 1)).bind fun v1054 =>
  (guardQ v1053 false (Qload Try.prog 22 v1054 r1050.2)).bind fun v1055 =>
  (guardQ v1053 false (QfieldAddr Try.prog 37 x1 1)).bind fun v1056 =>
  (guardQ v1053 false (Qload Try.prog 22 v1056 r1050.2)).bind fun v1057 =>
  (guardQ v1053 false (Qbin Try.prog Go.BinOp.eql 22 v1055 v1057)).bind fun v1058 =>
  (Qpick v1053 (Go.Value.bool true) v1058).bind fun v1059 =>
  (guardQ v1059 true (QfieldAddr Try.prog 25 r1050.1 0)).bind fun v1060 =>
  (guardQ v1059 true (Qload Try.prog 5 v1060 r1050.2)).bind fun v1061 =>
  (guardQ v1059 true (QfieldAddr Try.prog 37 x1 0)).bind fun v1062 =>
  (guardQ v1059 true (Qload Try.prog 5 v1062 r1050.2)).bind fun v1063 =>
  (guardQ v1059 true (Qbin Try.prog Go.BinOp.eql 5 v1061 v1063)).bind fun v1064 =>
  (Qpick v1059 v1064 (Go.Value.bool false)).bind fun v1065 =>
  (guardQ v1065 true (QfieldAddr Try.prog 25 r1050.1 2)).bind fun v1066 =>
  (guardQ v1065 true (Qload Try.prog 22 v1066 r1050.2)).bind fun v1067 =>
  (guardQ v1065 true (QfieldAddr Try.prog 37 x1 2)).bind fun v1068 =>
  (guardQ v1065 true (Qload Try.prog 22 v1068 r1050.2)).bind fun v1069 =>
  (guardQ v1065 true (Qbin Try.prog Go.BinOp.eql 22 v1067 v1069)).bind fun v1070 =>
  (Qpick v1065 v1070 (Go.Value.bool false)).bind fun v1071 =>
  (guardQ v1071 true (QfieldAddr Try.prog 25 r1050.1 4)).bind fun v1072 =>
  (guardQ v1071 true (Qload Try.prog 23 v1072 r1050.2)).bind fun v1073 =>
  (guardQ v1071 true (QfieldAddr Try.prog 37 x1 4)).bind fun v1074 =>
  (guardQ v1071 true (Qload Try.prog 23 v1074 r1050.2)).bind fun v1075 =>
  (guardQ v1071 true (Qbin Try.prog Go.BinOp.eql 23 v1073 v1075)).bind fun v1076 =>
  (Qpick v1071 v1076 (Go.Value.bool false)).bind fun v1077 =>
  (guardQ v1077 true (QfieldAddr Try.prog 25 r1050.1 8)).bind fun v1078 =>
  (guardQ v1077 true (Qload Try.prog 3 v1078 r1050.2)).bind fun v1079 =>
  (guardQ v1077 true (Qload Try.prog 3 x2 r1050.2)).bind fun v1080 =>
  (guardQ v1077 true (Qbin Try.prog Go.BinOp.gtr 3 v1079 v1080)).bind fun v1081 =>
  (Qpick v1077 v1081 (Go.Value.bool false)).bind fun v1082 =>
  some (v1082, r1050.2)
theorem s49eq (x0 x1 x2 : Value) (w : World) : evK Try.prog 49 none (bodyOf Try.f49) none _ { tmps := (([x0, x1, x2] : List Value) ++ List.replicate (44 - 3) undef).toArray, defers := [] } w (leaveK Try.prog Try.f49) = s49 x0 x1 x2 w := by kernel_rfl
theorem c49 {x0 x1 x2 : Value} {w : World} {r : Value × World} (h : s49 x0 x1 x2 w = some r) : C Try.prog 49 #[x0, x1, x2] w = some r :=
  C_ev follows_all drawLaw (by kernel_rfl) Try.func49 (by rfl) ((s49eq x0 x1 x2 w).trans h)
theorem e49 {x0 x1 x2 : Value} {w : World} {Q : Value × World → Prop} (h : Brings (s49 x0 x1 x2 w) Q) : Brings (Xcall Try.prog (Value.func (Fn.func 49) #[] #[x1, x2]) #[x0] w) Q :=
  h.call (Xcall_fn Try.func49 (by decide +kernel) (by rfl) _ _ _ w) fun _ h => c49 h

end Go.Proofs.Ytnnhfnjdcomjmaa
