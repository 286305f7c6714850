/- The functions of the program, by their texts. -/
import Derived.Test.YtfakpdegiobpaaaFa
import Derived.Test.YtfakpdegiobpaaaProg
import Derived.KernelRfl
namespace Go.Proofs.Ytfakpdegiobpaaa
open Go Go.Ev
open Go.Proofs
theorem follows_all : Try.prog.follows .mixedOrders = true := by kernel_rfl
/-! lychgate/lychgatelaw11.SeqadjBack -/
noncomputable def s3 (x0 x1 : Value) (w : World) : Option (Value × World) :=
  (Xcall Try.prog (Value.func (Fn.func 12) #[] #[]) #[x0] w).bind fun r1 =>
  (Qext r1.1 0).bind fun v2 =>
  (Qext r1.1 1).bind fun _ =>
  (Qext r1.1 2).bind fun v4 =>
  (Xcall Try.prog (Value.func (Fn.func 13) #[] #[]) #[] r1.2).bind fun r5 =>
  (Qun Go.UnOp.not r5.1).bind fun v6 =>
  (guardQ v6 false (Qun Go.UnOp.not (gv (isB v6 false) v4))).bind fun v7 =>
  (Qpick v6 (Go.Value.bool true) v7).bind fun v8 =>
  condK v8 (
    some ((Go.Value.bool false), r5.2)
  ) (
    (Xcall Try.prog (Value.func (Fn.func 14) #[] #[]) #[x0, x1] r5.2).bind fun r9 =>
    (Qun Go.UnOp.not r9.1).bind fun v10 =>
    (guardX v10 false r9.2 (Xcall Try.prog (Value.func (Fn.func 15) #[] #[]) #[(gv (isB v10 false) x0), (gv (isB v10 false) x1)] r9.2)).bind fun r11 =>
    (Qpick v10 (Go.Value.bool true) r11.1).bind fun v12 =>
    condK v12 (
      some ((Go.Value.bool true), r11.2)
    ) (
      (Xcall Try.prog (Value.func (Fn.func 17) #[] #[]) #[v2, x1] r11.2).bind fun r13 =>
      (Xcall Try.prog (Value.func (Fn.func 16) #[] #[]) #[v2, r13.1] r13.2).bind fun r14 =>
      (Qbin Try.prog Go.BinOp.eql 23 r14.1 x1).bind fun v15 =>
      some (v15, r14.2)
    )
  )
theorem s3eq (x0 x1 : Value) (w : World) : evK Try.prog 3 none (bodyOf Try.f3) none _ { tmps := (([x0, x1] : List Value) ++ List.replicate (36 - 2) undef).toArray, defers := [] } w (leaveK Try.prog Try.f3) = s3 x0 x1 w := by kernel_rfl
theorem c3 {x0 x1 : Value} {w : World} {r : Value × World} (h : s3 x0 x1 w = some r) : C Try.prog 3 #[x0, x1] w = some r :=
  C_ev follows_all drawLaw (by kernel_rfl) Try.func3 (by rfl) ((s3eq x0 x1 w).trans h)
theorem e3 {x0 x1 : Value} {w : World} {Q : Value × World → Prop} (h : Brings (s3 x0 x1 w) Q) : Brings (Xcall Try.prog (Value.func (Fn.func 3) #[] #[]) #[x0, x1] w) Q :=
  h.call (Xcall_fn Try.func3 (by decide +kernel) (by rfl) _ _ _ w) fun _ h => c3 h

/-! lychgate/lychgatelaw11.SeqadjOrder -/
noncomputable def s4 (x0 x1 x2 : Value) (w : World) : Option (Value × World) :=
  (Xcall Try.prog (Value.func (Fn.func 12) #[] #[]) #[x0] w).bind fun r16 =>
  (Qext r16.1 0).bind fun v17 =>
  (Qext r16.1 1).bind fun _ =>
  (Qext r16.1 2).bind fun v19 =>
  (Xcall Try.prog (Value.func (Fn.func 13) #[] #[]) #[] r16.2).bind fun r20 =>
  (Qun Go.UnOp.not r20.1).bind fun v21 =>
  (guardQ v21 false (Qun Go.UnOp.not (gv (isB v21 false) v19))).bind fun v22 =>
  (Qpick v21 (Go.Value.bool true) v22).bind fun v23 =>
  condK v23 (
    some ((Go.Value.bool false), r20.2)
  ) (
    (Qconv Try.prog 31 23 x2).bind fun v24 =>
    (Qbin Try.prog Go.BinOp.add 23 x1 v24).bind fun v25 =>
    (Xcall Try.prog (Value.func (Fn.func 14) #[] #[]) #[x0, x1] r20.2).bind fun r26 =>
    (Qun Go.UnOp.not r26.1).bind fun v27 =>
    (guardX v27 false r26.2 (Xcall Try.prog (Value.func (Fn.func 14) #[] #[]) #[(gv (isB v27 false) x0), (gv (isB v27 false) v25)] r26.2)).bind fun r28 =>
    (guardQ v27 false (Qun Go.UnOp.not r28.1)).bind fun v29 =>
    (Qpick v27 (Go.Value.bool true) v29).bind fun v30 =>
    condK v30 (
      some ((Go.Value.bool true), r28.2)
    ) (
      (Xcall Try.prog (Value.func (Fn.func 17) #[] #[]) #[v17, v25] r28.2).bind fun r31 =>
      (Xcall Try.prog (Value.func (Fn.func 17) #[] #[]) #[v17, x1] r31.2).bind fun r32 =>
      (Xcall Try.prog (Value.func (Fn.func 18) #[] #[]) #[r31.1, r32.1] r32.2).bind fun r33 =>
      (Qbin Try.prog Go.BinOp.gtr 31 x2 (Go.Value.int Go.IntKind.u16 0)).bind fun v34 =>
      (guardX v34 true r33.2 (Xcall Try.prog (Value.func (Fn.func 15) #[] #[]) #[(gv (isB v34 true) x0), (gv (isB v34 true) v25)] r33.2)).bind fun r35 =>
      (guardQ v34 true (Qun Go.UnOp.not r35.1)).bind fun v36 =>
      (Qpick v34 v36 (Go.Value.bool false)).bind fun v37 =>
      condK v37 (
        (Qbin Try.prog Go.BinOp.gtr 3 r33.1 (Go.Value.int Go.IntKind.i64 0)).bind fun v38 =>
        some (v38, r35.2)
      ) (
        (Qbin Try.prog Go.BinOp.geq 3 r33.1 (Go.Value.int Go.IntKind.i64 0)).bind fun v39 =>
        some (v39, r35.2)
      )
    )
  )
theorem s4eq (x0 x1 x2 : Value) (w : World) : evK Try.prog 4 none (bodyOf Try.f4) none _ { tmps := (([x0, x1, x2] : List Value) ++ List.replicate (57 - 3) undef).toArray, defers := [] } w (leaveK Try.prog Try.f4) = s4 x0 x1 x2 w := by kernel_rfl
theorem c4 {x0 x1 x2 : Value} {w : World} {r : Value × World} (h : s4 x0 x1 x2 w = some r) : C Try.prog 4 #[x0, x1, x2] w = some r :=
  C_ev follows_all drawLaw (by kernel_rfl) Try.func4 (by rfl) ((s4eq x0 x1 x2 w).trans h)
theorem e4 {x0 x1 x2 : Value} {w : World} {Q : Value × World → Prop} (h : Brings (s4 x0 x1 x2 w) Q) : Brings (Xcall Try.prog (Value.func (Fn.func 4) #[] #[]) #[x0, x1, x2] w) Q :=
  h.call (Xcall_fn Try.func4 (by decide +kernel) (by rfl) _ _ _ w) fun _ h => c4 h

/-! lychgate/lychgatelaw11.SeqadjSums -/
noncomputable def s5K0 : Exit → Act → World → Option (Value × World) := seqK (fun a w => evK Try.prog 5 none (nav [1, 1, 1, 1, 1, 1] (bodyOf Try.f5)) none _ a w (leaveK Try.prog Try.f5)) (leaveK Try.prog Try.f5)
noncomputable def s5K1 : Exit → Act → World → Option (Value × World) := blockK 0 s5K0
noncomputable def s5L0 (s : List Value) (d : List Deferred) (w : World) : Option (Value × World) := loopN Try.prog 5 none (nav [1, 1, 1, 1, 1, 0, 1, 0, 0] (bodyOf Try.f5)) s5K1 s d w
noncomputable def s5B0 : List Value → World → Option (Exit × List Value × World)
  | [x2, x6, x7, x8, x9, x10, x11, x12], w =>
    (Qlen Try.prog #[34] 3 #[x7] w).bind fun v46 =>
    (Qbin Try.prog Go.BinOp.lss 3 x12 v46).bind fun v47 =>
    (guardQ v47 true (Qlen Try.prog #[34] 3 #[(gv (isB v47 true) x8)] w)).bind fun v48 =>
    (guardQ v47 true (Qbin Try.prog Go.BinOp.lss 3 (gv (isB v47 true) x12) v48)).bind fun v49 =>
    (Qpick v47 v49 (Go.Value.bool false)).bind fun v50 =>
    (guardQ v50 true (Qlen Try.prog #[34] 3 #[(gv (isB v50 true) x2)] w)).bind fun v51 =>
    (guardQ v50 true (Qbin Try.prog Go.BinOp.lss 3 (gv (isB v50 true) x12) v51)).bind fun v52 =>
    (Qpick v50 v52 (Go.Value.bool false)).bind fun v53 =>
    (guardQ v53 true (Qbin Try.prog Go.BinOp.lss 3 (gv (isB v53 true) x12) (Go.Value.int Go.IntKind.i64 8))).bind fun v54 =>
    (Qpick v53 v54 (Go.Value.bool false)).bind fun v55 =>
    condK v55 (
      (QindexAddr Try.prog 34 x7 x12 w.drew).bind fun v56 =>
      (Qload Try.prog 5 v56 w.drew).bind fun v57 =>
      (Qconv Try.prog 5 3 v57).bind fun v58 =>
      (Qbin Try.prog Go.BinOp.rem 3 v58 (Go.Value.int Go.IntKind.i64 128)).bind fun v59 =>
      (Qbin Try.prog Go.BinOp.add 3 v59 (Go.Value.int Go.IntKind.i64 1)).bind fun v60 =>
      (QindexAddr Try.prog 34 x8 x12 w.drew).bind fun v61 =>
      (Qload Try.prog 5 v61 w.drew).bind fun v62 =>
      (Qconv Try.prog 5 3 v62).bind fun v63 =>
      (Qbin Try.prog Go.BinOp.rem 3 v63 (Go.Value.int Go.IntKind.i64 128)).bind fun v64 =>
      (Qbin Try.prog Go.BinOp.add 3 v64 (Go.Value.int Go.IntKind.i64 1)).bind fun v65 =>
      chkK True (
        (XmakeSlice Try.prog 34 v65 v65 w.drew).bind fun r66 =>
        (Xcall Try.prog (Value.func (Fn.func 20) #[] #[]) #[x9, x10, v60, r66.1] r66.2).bind fun r67 =>
        (Qbin Try.prog Go.BinOp.neq 37 r67.1 (Go.Value.int Go.IntKind.i64 0)).bind fun v68 =>
        (guardX v68 false r67.2 (Xcall Try.prog (Value.func (Fn.func 17) #[] #[]) #[(gv (isB v68 false) x9), (gv (isB v68 false) x10)] r67.2)).bind fun r69 =>
        (guardQ v68 false (Qbin Try.prog Go.BinOp.add 23 (gv (isB v68 false) x10) (gv (isB v68 false) x11))).bind fun v70 =>
        (guardQ v68 false (Qbin Try.prog Go.BinOp.neq 23 r69.1 v70)).bind fun v71 =>
        (Qpick v68 (Go.Value.bool true) v71).bind fun v72 =>
        condK v72 (
          some (Exit.ret, [x2, (Go.Value.bool false), x7, x8, x9, x10, x11, x12], r69.2)
        ) (
          (Qconv Try.prog 3 23 v65).bind fun v73 =>
          (Qconv Try.prog 3 23 v60).bind fun v74 =>
          (Qbin Try.prog Go.BinOp.sub 23 v73 v74).bind fun v75 =>
          (Qbin Try.prog Go.BinOp.add 23 x11 v75).bind fun v76 =>
          (Qconv Try.prog 3 23 v60).bind fun v77 =>
          (QindexAddr Try.prog 34 x2 x12 r69.2).bind fun v78 =>
          (Qload Try.prog 5 v78 r69.2).bind fun v79 =>
          (Qconv Try.prog 5 23 v79).bind fun v80 =>
          (Qbin Try.prog Go.BinOp.add 23 v77 v80).bind fun v81 =>
          (Qbin Try.prog Go.BinOp.add 23 x10 v81).bind fun v82 =>
          (Qbin Try.prog Go.BinOp.add 3 x12 (Go.Value.int Go.IntKind.i64 1)).bind fun v83 =>
          some (Exit.normal, [x2, x6, x7, x8, x9, v82, v76, v83], r69.2)
        )
      )
    ) (
      some ((Exit.exit 0), [x2, x6, x7, x8, x9, x10, x11, x12], w)
    )
  | _, _ => none
noncomputable def s5R0 : Exit → List Value → World → Option (Value × World)
  | (Exit.exit 0), [_, _, _, _, x9, x10, x11, _], w =>
    (Xcall Try.prog (Value.func (Fn.func 13) #[] #[]) #[] w).bind fun r84 =>
    (guardX r84.1 true r84.2 (Xcall Try.prog (Value.func (Fn.func 17) #[] #[]) #[(gv (isB r84.1 true) x9), (gv (isB r84.1 true) x10)] r84.2)).bind fun r85 =>
    (guardQ r84.1 true (Qbin Try.prog Go.BinOp.add 23 (gv (isB r84.1 true) x10) (gv (isB r84.1 true) x11))).bind fun v86 =>
    (guardQ r84.1 true (Qbin Try.prog Go.BinOp.eql 23 r85.1 v86)).bind fun v87 =>
    (Qpick r84.1 v87 (Go.Value.bool false)).bind fun v88 =>
    (guardQ v88 true (Qbin Try.prog Go.BinOp.add 23 (gv (isB v88 true) x10) (Go.Value.int Go.IntKind.u32 1000))).bind fun v89 =>
    (guardX v88 true r85.2 (Xcall Try.prog (Value.func (Fn.func 17) #[] #[]) #[(gv (isB v88 true) x9), v89] r85.2)).bind fun r90 =>
    (guardQ v88 true (Qbin Try.prog Go.BinOp.add 23 (gv (isB v88 true) x10) (Go.Value.int Go.IntKind.u32 1000))).bind fun v91 =>
    (guardQ v88 true (Qbin Try.prog Go.BinOp.add 23 v91 (gv (isB v88 true) x11))).bind fun v92 =>
    (guardQ v88 true (Qbin Try.prog Go.BinOp.eql 23 r90.1 v92)).bind fun v93 =>
    (Qpick v88 v93 (Go.Value.bool false)).bind fun v94 =>
    (guardQ v94 true (Qbin Try.prog Go.BinOp.add 23 (gv (isB v94 true) x10) (gv (isB v94 true) x11))).bind fun v95 =>
    (guardX v94 true r90.2 (Xcall Try.prog (Value.func (Fn.func 16) #[] #[]) #[(gv (isB v94 true) x9), v95] r90.2)).bind fun r96 =>
    (guardQ v94 true (Qbin Try.prog Go.BinOp.eql 23 r96.1 (gv (isB v94 true) x10))).bind fun v97 =>
    (Qpick v94 v97 (Go.Value.bool false)).bind fun v98 =>
    some (v98, r96.2)
  | Exit.ret, [_, x6, _, _, _, _, _, _], w =>
    some (x6, w)
  | _, _, _ => none
noncomputable def s5raw (x0 x1 x2 : Value) (w : World) : Option (Value × World) :=
  (Xbox Try.prog 35 x1 w).bind fun r40 =>
  (QindexAddr Try.prog 35 r40.1 (Go.Value.int Go.IntKind.i64 0) r40.2.drew).bind fun v41 =>
  (Qload Try.prog 34 v41 r40.2.drew).bind fun v42 =>
  (QindexAddr Try.prog 35 r40.1 (Go.Value.int Go.IntKind.i64 1) r40.2.drew).bind fun v43 =>
  (Qload Try.prog 34 v43 r40.2.drew).bind fun v44 =>
  chkK True (
    (Xcall Try.prog (Value.func (Fn.func 19) #[] #[]) #[] r40.2.drew).bind fun r45 =>
    s5L0 [x0, x1, x2, undef, r40.1, undef, (Go.Value.bool false), v42, v44, r45.1, x0, (Go.Value.int Go.IntKind.u32 0), (Go.Value.int Go.IntKind.i64 0), undef, undef, v41, v42, v43, v44, r45.1, x0, undef, undef, undef, undef, undef, undef, undef, undef, undef, undef, undef, undef, undef, undef, undef, undef, undef, undef, undef, undef, undef, undef, undef, undef, undef, undef, undef, undef, undef, undef, undef, undef, undef, undef, undef, undef, undef, undef, undef, undef, undef, undef, undef, undef, undef, undef, undef, undef, undef, undef, undef, undef, undef, undef, undef, undef, undef, undef, undef, undef, undef, undef, undef, undef, undef, undef, undef, undef, undef, undef, undef, undef, undef, undef, undef, undef, undef, undef, undef, undef, undef, undef, undef, undef, undef, undef, undef, undef, undef, undef, undef, undef, undef, undef, undef, undef, undef, undef, undef] [] r45.2
  )
noncomputable def s5 (x0 x1 x2 : Value) (w : World) : Option (Value × World) :=
  (Xbox Try.prog 35 x1 w).bind fun r40 =>
  (QindexAddr Try.prog 35 r40.1 (Go.Value.int Go.IntKind.i64 0) r40.2.drew).bind fun v41 =>
  (Qload Try.prog 34 v41 r40.2.drew).bind fun v42 =>
  (QindexAddr Try.prog 35 r40.1 (Go.Value.int Go.IntKind.i64 1) r40.2.drew).bind fun v43 =>
  (Qload Try.prog 34 v43 r40.2.drew).bind fun v44 =>
  chkK True (
    (Xcall Try.prog (Value.func (Fn.func 19) #[] #[]) #[] r40.2.drew).bind fun r45 =>
    loopR s5B0 s5R0 [x2, (Go.Value.bool false), v42, v44, r45.1, x0, (Go.Value.int Go.IntKind.u32 0), (Go.Value.int Go.IntKind.i64 0)] r45.2
  )
theorem s5B0eq (x2 x6 x7 x8 x9 x10 x11 x12 : Value) (w : World) (g : Nat → Value) (d : List Deferred) : evK Try.prog 5 none (nav [1, 1, 1, 1, 1, 0, 1, 0, 0] (bodyOf Try.f5)) none _ (frm 120 (setL [2, 6, 7, 8, 9, 10, 11, 12] [x2, x6, x7, x8, x9, x10, x11, x12] g) d) w (projK [2, 6, 7, 8, 9, 10, 11, 12]) = s5B0 [x2, x6, x7, x8, x9, x10, x11, x12] w := by kernel_rfl
theorem s5R0x0eq (x2 x6 x7 x8 x9 x10 x11 x12 : Value) (g : Nat → Value) (w : World) : s5K1 (Exit.exit 0) (frm 120 (setL [2, 6, 7, 8, 9, 10, 11, 12] [x2, x6, x7, x8, x9, x10, x11, x12] g) []) w = s5R0 (Exit.exit 0) [x2, x6, x7, x8, x9, x10, x11, x12] w := by kernel_rfl
theorem s5R0ret_eq (x2 x6 x7 x8 x9 x10 x11 x12 : Value) (g : Nat → Value) (w : World) : s5K1 Exit.ret (frm 120 (setL [2, 6, 7, 8, 9, 10, 11, 12] [x2, x6, x7, x8, x9, x10, x11, x12] g) []) w = s5R0 Exit.ret [x2, x6, x7, x8, x9, x10, x11, x12] w := by kernel_rfl
theorem s5R0of : ∀ (e : Exit) (xs : List Value) (w : World) (g : Nat → Value) (y : _), s5R0 e xs w = some y → s5K1 e (frm 120 (setL [2, 6, 7, 8, 9, 10, 11, 12] xs g) []) w = some y := by
  intro e xs w g y h
  unfold s5R0 at h
  split at h
  · exact (s5R0x0eq _ _ _ _ _ _ _ _ g _).trans h
  · exact (s5R0ret_eq _ _ _ _ _ _ _ _ g _).trans h
  · cases h
theorem s5L0of {s0 s1 s2 s3 s4 s5 s6 s7 s8 s9 s10 s11 s12 s13 s14 s15 s16 s17 s18 s19 s20 s21 s22 s23 s24 s25 s26 s27 s28 s29 s30 s31 s32 s33 s34 s35 s36 s37 s38 s39 s40 s41 s42 s43 s44 s45 s46 s47 s48 s49 s50 s51 s52 s53 s54 s55 s56 s57 s58 s59 s60 s61 s62 s63 s64 s65 s66 s67 s68 s69 s70 s71 s72 s73 s74 s75 s76 s77 s78 s79 s80 s81 s82 s83 s84 s85 s86 s87 s88 s89 s90 s91 s92 s93 s94 s95 s96 s97 s98 s99 s100 s101 s102 s103 s104 s105 s106 s107 s108 s109 s110 s111 s112 s113 s114 s115 s116 s117 s118 s119 : Value} {w : World} {r : _} (h : loopR s5B0 s5R0 [s2, s6, s7, s8, s9, s10, s11, s12] w = some r) : s5L0 [s0, s1, s2, s3, s4, s5, s6, s7, s8, s9, s10, s11, s12, s13, s14, s15, s16, s17, s18, s19, s20, s21, s22, s23, s24, s25, s26, s27, s28, s29, s30, s31, s32, s33, s34, s35, s36, s37, s38, s39, s40, s41, s42, s43, s44, s45, s46, s47, s48, s49, s50, s51, s52, s53, s54, s55, s56, s57, s58, s59, s60, s61, s62, s63, s64, s65, s66, s67, s68, s69, s70, s71, s72, s73, s74, s75, s76, s77, s78, s79, s80, s81, s82, s83, s84, s85, s86, s87, s88, s89, s90, s91, s92, s93, s94, s95, s96, s97, s98, s99, s100, s101, s102, s103, s104, s105, s106, s107, s108, s109, s110, s111, s112, s113, s114, s115, s116, s117, s118, s119] [] w = some r :=
  loopN_of (B := s5B0) (R := s5R0) (n := 120) (live := [2, 6, 7, 8, 9, 10, 11, 12]) (fun xs w g y hl h => match xs, hl, h with | [x2, x6, x7, x8, x9, x10, x11, x12], _, h => (s5B0eq x2 x6 x7 x8 x9 x10 x11 x12 w g []).trans h) (by kernel_rfl) (s5R0of) (fun i => ([s0, s1, s2, s3, s4, s5, s6, s7, s8, s9, s10, s11, s12, s13, s14, s15, s16, s17, s18, s19, s20, s21, s22, s23, s24, s25, s26, s27, s28, s29, s30, s31, s32, s33, s34, s35, s36, s37, s38, s39, s40, s41, s42, s43, s44, s45, s46, s47, s48, s49, s50, s51, s52, s53, s54, s55, s56, s57, s58, s59, s60, s61, s62, s63, s64, s65, s66, s67, s68, s69, s70, s71, s72, s73, s74, s75, s76, s77, s78, s79, s80, s81, s82, s83, s84, s85, s86, s87, s88, s89, s90, s91, s92, s93, s94, s95, s96, s97, s98, s99, s100, s101, s102, s103, s104, s105, s106, s107, s108, s109, s110, s111, s112, s113, s114, s115, s116, s117, s118, s119] : List Value).getD i undef) (by kernel_rfl) rfl h
theorem s5eq (x0 x1 x2 : Value) (w : World) : evK Try.prog 5 none (bodyOf Try.f5) none _ { tmps := (([x0, x1, x2] : List Value) ++ List.replicate (120 - 3) undef).toArray, defers := [] } w (leaveK Try.prog Try.f5) = s5raw x0 x1 x2 w := by kernel_rfl
theorem c5 {x0 x1 x2 : Value} {w : World} {r : Value × World} (h : s5 x0 x1 x2 w = some r) : C Try.prog 5 #[x0, x1, x2] w = some r :=
  C_ev follows_all drawLaw (by kernel_rfl) Try.func5 (by rfl) ((s5eq x0 x1 x2 w).trans (show s5raw x0 x1 x2 w = some r from (Ev.bind_mono fun (r40 : Value × World) => (Ev.bind_mono fun (v41 : Value) => (Ev.bind_mono fun (v42 : Value) => (Ev.bind_mono fun (v43 : Value) => (Ev.bind_mono fun (v44 : Value) => (chkK_mono (Ev.bind_mono fun (r45 : Value × World) => (s5L0of)))))))) h))
theorem e5 {x0 x1 x2 : Value} {w : World} {Q : Value × World → Prop} (h : Brings (s5 x0 x1 x2 w) Q) : Brings (Xcall Try.prog (Value.func (Fn.func 5) #[] #[]) #[x0, x1, x2] w) Q :=
  h.call (Xcall_fn Try.func5 (by decide +kernel) (by rfl) _ _ _ w) fun _ h => c5 h

/-! lychgate/lychgatelaw11.SeqadjInside -/
noncomputable def s6 (x0 x1 : Value) (w : World) : Option (Value × World) :=
  (Xbox Try.prog 41 x0 w).bind fun r99 =>
  (Xcall Try.prog (Value.func (Fn.func 19) #[] #[]) #[] r99.2).bind fun r100 =>
  (QfieldAddr Try.prog 41 r99.1 0).bind fun v101 =>
  (Qload Try.prog 23 v101 r100.2).bind fun v102 =>
  (QfieldAddr Try.prog 41 r99.1 1).bind fun v103 =>
  (Qload Try.prog 3 v103 r100.2).bind fun v104 =>
  (QfieldAddr Try.prog 41 r99.1 2).bind fun v105 =>
  (Qload Try.prog 34 v105 r100.2).bind fun v106 =>
  (Xcall Try.prog (Value.func (Fn.func 20) #[] #[]) #[r100.1, v102, v104, v106] r100.2).bind fun r107 =>
  (Qbin Try.prog Go.BinOp.neq 37 r107.1 (Go.Value.int Go.IntKind.i64 0)).bind fun v108 =>
  condK v108 (
    (Xcall Try.prog (Value.func (Fn.func 13) #[] #[]) #[] r107.2.drew).bind fun r109 =>
    (guardX r109.1 true r109.2 (Xcall Try.prog (Value.func (Fn.func 21) #[] #[]) #[(gv (isB r109.1 true) r100.1)] r109.2)).bind fun r110 =>
    (guardQ r109.1 true (Qbin Try.prog Go.BinOp.eql 3 r110.1 (Go.Value.int Go.IntKind.i64 0))).bind fun v111 =>
    (Qpick r109.1 v111 (Go.Value.bool false)).bind fun v112 =>
    (guardQ v112 true (QfieldAddr Try.prog 41 r99.1 0)).bind fun v113 =>
    (guardQ v112 true (Qload Try.prog 23 v113 r110.2)).bind fun v114 =>
    (guardX v112 true r110.2 (Xcall Try.prog (Value.func (Fn.func 17) #[] #[]) #[(gv (isB v112 true) r100.1), v114] r110.2)).bind fun r115 =>
    (guardQ v112 true (QfieldAddr Try.prog 41 r99.1 0)).bind fun v116 =>
    (guardQ v112 true (Qload Try.prog 23 v116 r115.2)).bind fun v117 =>
    (guardQ v112 true (Qbin Try.prog Go.BinOp.eql 23 r115.1 v117)).bind fun v118 =>
    (Qpick v112 v118 (Go.Value.bool false)).bind fun v119 =>
    chkK ((guardQ v112 true (Qload Try.prog 23 v116 r110.2) = some v117 ∧ guardQ v112 true (Qload Try.prog 23 v116 r115.2) = some v117) ∧ True) (
      some (v119, r115.2)
    )
  ) (
    (QfieldAddr Try.prog 41 r99.1 0).bind fun v120 =>
    (Qload Try.prog 23 v120 r107.2.drew).bind fun v121 =>
    (Qconv Try.prog 5 3 x1).bind fun v122 =>
    (QfieldAddr Try.prog 41 r99.1 1).bind fun v123 =>
    (Qload Try.prog 3 v123 r107.2.drew).bind fun v124 =>
    (Qbin Try.prog Go.BinOp.rem 3 v122 v124).bind fun v125 =>
    (Qconv Try.prog 3 23 v125).bind fun v126 =>
    (Qbin Try.prog Go.BinOp.add 23 v121 v126).bind fun v127 =>
    chkK True (
      (QfieldAddr Try.prog 41 r99.1 0).bind fun v128 =>
      (Qload Try.prog 23 v128 r107.2.drew.drew).bind fun v129 =>
      (Qconv Try.prog 5 3 x1).bind fun v130 =>
      (QfieldAddr Try.prog 41 r99.1 2).bind fun v131 =>
      (Qload Try.prog 34 v131 r107.2.drew.drew).bind fun v132 =>
      (Qlen Try.prog #[34] 3 #[v132] r107.2.drew.drew).bind fun v133 =>
      (Qbin Try.prog Go.BinOp.rem 3 v130 v133).bind fun v134 =>
      (Qconv Try.prog 3 23 v134).bind fun v135 =>
      (Qbin Try.prog Go.BinOp.add 23 v129 v135).bind fun v136 =>
      chkK True (
        (QfieldAddr Try.prog 41 r99.1 2).bind fun v137 =>
        (Qload Try.prog 34 v137 r107.2.drew.drew).bind fun v138 =>
        (Qlen Try.prog #[34] 3 #[v138] r107.2.drew.drew).bind fun v139 =>
        (Qconv Try.prog 3 23 v139).bind fun v140 =>
        (QfieldAddr Try.prog 41 r99.1 1).bind fun v141 =>
        (Qload Try.prog 3 v141 r107.2.drew.drew).bind fun v142 =>
        (Qconv Try.prog 3 23 v142).bind fun v143 =>
        (Qbin Try.prog Go.BinOp.sub 23 v140 v143).bind fun v144 =>
        (Xcall Try.prog (Value.func (Fn.func 13) #[] #[]) #[] r107.2.drew.drew.drew).bind fun r145 =>
        (guardX r145.1 true r145.2 (Xcall Try.prog (Value.func (Fn.func 17) #[] #[]) #[(gv (isB r145.1 true) r100.1), (gv (isB r145.1 true) v127)] r145.2)).bind fun r146 =>
        (guardQ r145.1 true (QfieldAddr Try.prog 41 r99.1 0)).bind fun v147 =>
        (guardQ r145.1 true (Qload Try.prog 23 v147 r146.2)).bind fun v148 =>
        (guardQ r145.1 true (Qbin Try.prog Go.BinOp.eql 23 r146.1 v148)).bind fun v149 =>
        (Qpick r145.1 v149 (Go.Value.bool false)).bind fun v150 =>
        (guardX v150 true r146.2 (Xcall Try.prog (Value.func (Fn.func 16) #[] #[]) #[(gv (isB v150 true) r100.1), (gv (isB v150 true) v136)] r146.2)).bind fun r151 =>
        (guardQ v150 true (QfieldAddr Try.prog 41 r99.1 0)).bind fun v152 =>
        (guardQ v150 true (Qload Try.prog 23 v152 r151.2)).bind fun v153 =>
        (guardQ v150 true (Qbin Try.prog Go.BinOp.eql 23 r151.1 v153)).bind fun v154 =>
        (Qpick v150 v154 (Go.Value.bool false)).bind fun v155 =>
        (guardQ v155 true (QfieldAddr Try.prog 41 r99.1 0)).bind fun v156 =>
        (guardQ v155 true (Qload Try.prog 23 v156 r151.2)).bind fun v157 =>
        (guardQ v155 true (QfieldAddr Try.prog 41 r99.1 1)).bind fun v158 =>
        (guardQ v155 true (Qload Try.prog 3 v158 r151.2)).bind fun v159 =>
        (guardQ v155 true (Qconv Try.prog 3 23 v159)).bind fun v160 =>
        (guardQ v155 true (Qbin Try.prog Go.BinOp.add 23 v157 v160)).bind fun v161 =>
        (guardX v155 true r151.2 (Xcall Try.prog (Value.func (Fn.func 17) #[] #[]) #[(gv (isB v155 true) r100.1), v161] r151.2)).bind fun r162 =>
        (guardQ v155 true (QfieldAddr Try.prog 41 r99.1 0)).bind fun v163 =>
        (guardQ v155 true (Qload Try.prog 23 v163 r162.2)).bind fun v164 =>
        (guardQ v155 true (QfieldAddr Try.prog 41 r99.1 2)).bind fun v165 =>
        (guardQ v155 true (Qload Try.prog 34 v165 r162.2)).bind fun v166 =>
        (guardQ v155 true (Qlen Try.prog #[34] 3 #[v166] r162.2)).bind fun v167 =>
        (guardQ v155 true (Qconv Try.prog 3 23 v167)).bind fun v168 =>
        (guardQ v155 true (Qbin Try.prog Go.BinOp.add 23 v164 v168)).bind fun v169 =>
        (guardQ v155 true (Qbin Try.prog Go.BinOp.eql 23 r162.1 v169)).bind fun v170 =>
        (Qpick v155 v170 (Go.Value.bool false)).bind fun v171 =>
        (guardQ v171 true (QfieldAddr Try.prog 41 r99.1 0)).bind fun v172 =>
        (guardQ v171 true (Qload Try.prog 23 v172 r162.2)).bind fun v173 =>
        (guardQ v171 true (Qbin Try.prog Go.BinOp.sub 23 v173 (Go.Value.int Go.IntKind.u32 1))).bind fun v174 =>
        (guardX v171 true r162.2 (Xcall Try.prog (Value.func (Fn.func 17) #[] #[]) #[(gv (isB v171 true) r100.1), v174] r162.2)).bind fun r175 =>
        (guardQ v171 true (QfieldAddr Try.prog 41 r99.1 0)).bind fun v176 =>
        (guardQ v171 true (Qload Try.prog 23 v176 r175.2)).bind fun v177 =>
        (guardQ v171 true (Qbin Try.prog Go.BinOp.sub 23 v177 (Go.Value.int Go.IntKind.u32 1))).bind fun v178 =>
        (guardQ v171 true (Qbin Try.prog Go.BinOp.eql 23 r175.1 v178)).bind fun v179 =>
        (Qpick v171 v179 (Go.Value.bool false)).bind fun v180 =>
        (guardQ v180 true (QfieldAddr Try.prog 41 r99.1 0)).bind fun v181 =>
        (guardQ v180 true (Qload Try.prog 23 v181 r175.2)).bind fun v182 =>
        (guardQ v180 true (Qbin Try.prog Go.BinOp.add 23 v182 (Go.Value.int Go.IntKind.u32 9000))).bind fun v183 =>
        (guardX v180 true r175.2 (Xcall Try.prog (Value.func (Fn.func 17) #[] #[]) #[(gv (isB v180 true) r100.1), v183] r175.2)).bind fun r184 =>
        (guardQ v180 true (QfieldAddr Try.prog 41 r99.1 0)).bind fun v185 =>
        (guardQ v180 true (Qload Try.prog 23 v185 r184.2)).bind fun v186 =>
        (guardQ v180 true (Qbin Try.prog Go.BinOp.add 23 v186 (Go.Value.int Go.IntKind.u32 9000))).bind fun v187 =>
        (guardQ v180 true (Qbin Try.prog Go.BinOp.add 23 v187 (gv (isB v180 true) v144))).bind fun v188 =>
        (guardQ v180 true (Qbin Try.prog Go.BinOp.eql 23 r184.1 v188)).bind fun v189 =>
        (Qpick v180 v189 (Go.Value.bool false)).bind fun v190 =>
        chkK ((guardQ r145.1 true (Qload Try.prog 23 v147 r145.2) = some v148 ∧ guardQ r145.1 true (Qload Try.prog 23 v147 r146.2) = some v148) ∧ ((guardQ v150 true (Qload Try.prog 23 v152 r146.2) = some v153 ∧ guardQ v150 true (Qload Try.prog 23 v152 r151.2) = some v153) ∧ ((guardQ v155 true (Qload Try.prog 23 v163 r151.2) = some v164 ∧ guardQ v155 true (Qload Try.prog 23 v163 r162.2) = some v164) ∧ ((guardQ v155 true (Qload Try.prog 34 v165 r151.2) = some v166 ∧ guardQ v155 true (Qload Try.prog 34 v165 r162.2) = some v166) ∧ ((guardQ v155 true (Qlen Try.prog #[34] 3 #[v166] r151.2) = some v167 ∧ guardQ v155 true (Qlen Try.prog #[34] 3 #[v166] r162.2) = some v167) ∧ ((guardQ v171 true (Qload Try.prog 23 v176 r162.2) = some v177 ∧ guardQ v171 true (Qload Try.prog 23 v176 r175.2) = some v177) ∧ ((guardQ v180 true (Qload Try.prog 23 v185 r175.2) = some v186 ∧ guardQ v180 true (Qload Try.prog 23 v185 r184.2) = some v186) ∧ True))))))) (
          some (v190, r184.2)
        )
      )
    )
  )
theorem s6eq (x0 x1 : Value) (w : World) : evK Try.prog 6 none (bodyOf Try.f6) none _ { tmps := (([x0, x1] : List Value) ++ List.replicate (120 - 2) undef).toArray, defers := [] } w (leaveK Try.prog Try.f6) = s6 x0 x1 w := by kernel_rfl
theorem c6 {x0 x1 : Value} {w : World} {r : Value × World} (h : s6 x0 x1 w = some r) : C Try.prog 6 #[x0, x1] w = some r :=
  C_ev follows_all drawLaw (by kernel_rfl) Try.func6 (by rfl) ((s6eq x0 x1 w).trans h)
theorem e6 {x0 x1 : Value} {w : World} {Q : Value × World → Prop} (h : Brings (s6 x0 x1 w) Q) : Brings (Xcall Try.prog (Value.func (Fn.func 6) #[] #[]) #[x0, x1] w) Q :=
  h.call (Xcall_fn Try.func6 (by decide +kernel) (by rfl) _ _ _ w) fun _ h => c6 h

/-! lychgate/lychgatelaw11.SeqadjPlays -/
noncomputable def s7 (x0 x1 x2 : Value) (w : World) : Option (Value × World) :=
  (Xbox Try.prog 41 x1 w).bind fun r191 =>
  (Xcall Try.prog (Value.func (Fn.func 12) #[] #[]) #[x0] r191.2).bind fun r192 =>
  (Qext r192.1 0).bind fun v193 =>
  (Qext r192.1 1).bind fun v194 =>
  (Qext r192.1 2).bind fun v195 =>
  (Xcall Try.prog (Value.func (Fn.func 13) #[] #[]) #[] r192.2).bind fun r196 =>
  (Qpick r196.1 (gv (isB r196.1 true) v195) (Go.Value.bool false)).bind fun v197 =>
  (guardQ v197 true (Qload Try.prog 41 r191.1 r196.2)).bind fun v198 =>
  (guardX v197 true r196.2 (Xcall Try.prog (Value.func (Fn.func 22) #[] #[]) #[(gv (isB v197 true) v193), (gv (isB v197 true) v194), v198, (gv (isB v197 true) x2)] r196.2)).bind fun r199 =>
  (Qpick v197 r199.1 (Go.Value.bool false)).bind fun v200 =>
  some (v200, r199.2)
theorem s7eq (x0 x1 x2 : Value) (w : World) : evK Try.prog 7 none (bodyOf Try.f7) none _ { tmps := (([x0, x1, x2] : List Value) ++ List.replicate (27 - 3) undef).toArray, defers := [] } w (leaveK Try.prog Try.f7) = s7 x0 x1 x2 w := by kernel_rfl
theorem c7 {x0 x1 x2 : Value} {w : World} {r : Value × World} (h : s7 x0 x1 x2 w = some r) : C Try.prog 7 #[x0, x1, x2] w = some r :=
  C_ev follows_all drawLaw (by kernel_rfl) Try.func7 (by rfl) ((s7eq x0 x1 x2 w).trans h)
theorem e7 {x0 x1 x2 : Value} {w : World} {Q : Value × World → Prop} (h : Brings (s7 x0 x1 x2 w) Q) : Brings (Xcall Try.prog (Value.func (Fn.func 7) #[] #[]) #[x0, x1, x2] w) Q :=
  h.call (Xcall_fn Try.func7 (by decide +kernel) (by rfl) _ _ _ w) fun _ h => c7 h

/-! lychgate/lychgatelaw11.SeqadjFinds -/
noncomputable def s8K0 : Exit → Act → World → Option (Value × World) := seqK (fun a w => evK Try.prog 8 none (nav [1, 1, 1, 1] (bodyOf Try.f8)) none _ a w (leaveK Try.prog Try.f8)) (leaveK Try.prog Try.f8)
noncomputable def s8K1 : Exit → Act → World → Option (Value × World) := blockK 0 s8K0
noncomputable def s8L0 (s : List Value) (d : List Deferred) (w : World) : Option (Value × World) := loopN Try.prog 8 none (nav [1, 1, 1, 0, 1, 0, 0] (bodyOf Try.f8)) s8K1 s d w
noncomputable def s8K2 : Exit → Act → World → Option (Exit × List Value × World) := seqK (fun a w => evK Try.prog 8 none (nav [1, 1, 1, 0, 1, 0, 0, 1, 1] (bodyOf Try.f8)) none _ a w (projK [0, 2, 3, 5, 6, 7])) (projK [0, 2, 3, 5, 6, 7])
noncomputable def s8K3 : Exit → Act → World → Option (Exit × List Value × World) := blockK 1 s8K2
noncomputable def s8K4 : Exit → Act → World → Option (Exit × List Value × World) := seqK (fun a w => evK Try.prog 8 none (nav [1, 1, 1, 0, 1, 0, 0, 1, 0, 0, 1, 1] (bodyOf Try.f8)) none _ a w s8K3) s8K3
noncomputable def s8K5 : Exit → Act → World → Option (Exit × List Value × World) := blockK 2 s8K4
noncomputable def s8L1 (s : List Value) (d : List Deferred) (w : World) : Option (Exit × List Value × World) := loopN Try.prog 8 none (nav [1, 1, 1, 0, 1, 0, 0, 1, 0, 0, 1, 0, 1, 0, 0] (bodyOf Try.f8)) s8K5 s d w
noncomputable def s8B1 : List Value → World → Option (Exit × List Value × World)
  | [x0, x2, x3, x5, x6, x7, x8], w =>
    (Qbin Try.prog Go.BinOp.leq 3 x8 x7).bind fun v231 =>
    condK v231 (
      (QindexAddr Try.prog 22 x0 x8 w.drew).bind fun v232 =>
      (QfieldAddr Try.prog 41 v232 0).bind fun v233 =>
      (Qload Try.prog 23 v233 w.drew).bind fun v234 =>
      (QindexAddr Try.prog 22 x0 x8 w.drew).bind fun v235 =>
      (QfieldAddr Try.prog 41 v235 1).bind fun v236 =>
      (Qload Try.prog 3 v236 w.drew).bind fun v237 =>
      (Xcall Try.prog (Value.func (Fn.func 23) #[] #[]) #[x6, v234, v237] w.drew).bind fun r238 =>
      (Qext r238.1 0).bind fun v239 =>
      (Qext r238.1 1).bind fun v240 =>
      chkK True (
        (QindexAddr Try.prog 22 x0 x8 r238.2.drew).bind fun v241 =>
        (QfieldAddr Try.prog 41 v241 0).bind fun v242 =>
        (Qload Try.prog 23 v242 r238.2.drew).bind fun v243 =>
        (QindexAddr Try.prog 22 x0 x8 r238.2.drew).bind fun v244 =>
        (QfieldAddr Try.prog 41 v244 1).bind fun v245 =>
        (Qload Try.prog 3 v245 r238.2.drew).bind fun v246 =>
        (Xcall Try.prog (Value.func (Fn.func 23) #[] #[]) #[x3, v243, v246] r238.2.drew).bind fun r247 =>
        (Qext r247.1 0).bind fun v248 =>
        (Qext r247.1 1).bind fun v249 =>
        chkK True (
          (guardQ v240 true (Qun Go.UnOp.not (gv (isB v240 true) v249))).bind fun v250 =>
          (guardX (gv (isB v240 true) v250) false r247.2 (Xconv Try.prog 34 9 (gv (isB (gv (isB v240 true) v250) false) v239) r247.2)).bind fun r251 =>
          (guardX (gv (isB v240 true) v250) false r251.2 (Xconv Try.prog 34 9 (gv (isB (gv (isB v240 true) v250) false) v248) r251.2)).bind fun r252 =>
          (guardQ (gv (isB v240 true) v250) false (Qbin Try.prog Go.BinOp.neq 9 r251.1 r252.1)).bind fun v253 =>
          (guardQ v240 true (Qpick (gv (isB v240 true) v250) (Go.Value.bool true) v253)).bind fun v254 =>
          (Qpick v240 v254 (Go.Value.bool false)).bind fun v255 =>
          condK v255 (
            some (Exit.ret, [x0, (Go.Value.bool false), x3, x5, x6, x7, x8], r252.2)
          ) (
            (Qbin Try.prog Go.BinOp.add 3 x8 (Go.Value.int Go.IntKind.i64 1)).bind fun v256 =>
            some (Exit.normal, [x0, x2, x3, x5, x6, x7, v256], r252.2)
          )
        )
      )
    ) (
      some ((Exit.exit 2), [x0, x2, x3, x5, x6, x7, x8], w)
    )
  | _, _ => none
noncomputable def s8R1 : Exit → List Value → World → Option (Exit × List Value × World)
  | (Exit.exit 2), [x0, x2, x3, x5, x6, x7, _], w =>
    (QindexAddr Try.prog 22 x0 x7 w.drew).bind fun v257 =>
    (QfieldAddr Try.prog 41 v257 0).bind fun v258 =>
    (Qload Try.prog 23 v258 w.drew).bind fun v259 =>
    (QindexAddr Try.prog 22 x0 x7 w.drew).bind fun v260 =>
    (QfieldAddr Try.prog 41 v260 1).bind fun v261 =>
    (Qload Try.prog 3 v261 w.drew).bind fun v262 =>
    (Xcall Try.prog (Value.func (Fn.func 23) #[] #[]) #[x6, v259, v262] w.drew).bind fun r263 =>
    (Qext r263.1 0).bind fun _ =>
    (Qext r263.1 1).bind fun v265 =>
    chkK True (
      (Qun Go.UnOp.not v265).bind fun v266 =>
      condK v266 (
        some (Exit.ret, [x0, (Go.Value.bool false), x3, x5, x6, x7], r263.2)
      ) (
        (Qbin Try.prog Go.BinOp.add 3 x7 (Go.Value.int Go.IntKind.i64 1)).bind fun v267 =>
        some (Exit.normal, [x0, x2, x3, x5, x6, v267], r263.2)
      )
    )
  | Exit.ret, [x0, x2, x3, x5, x6, x7, _], w =>
    some (Exit.ret, [x0, x2, x3, x5, x6, x7], w)
  | _, _, _ => none
noncomputable def s8B0raw (g : Nat → Value) (d : List Deferred) : List Value → World → Option (Exit × List Value × World)
  | [x0, x2, x3, x5, x6, x7], w =>
    (Qlen Try.prog #[22] 3 #[x0] w).bind fun v206 =>
    (Qbin Try.prog Go.BinOp.lss 3 x7 v206).bind fun v207 =>
    (guardQ v207 true (Qbin Try.prog Go.BinOp.lss 3 (gv (isB v207 true) x7) (Go.Value.int Go.IntKind.i64 30))).bind fun v208 =>
    (Qpick v207 v208 (Go.Value.bool false)).bind fun v209 =>
    condK v209 (
      (QindexAddr Try.prog 22 x0 x7 w.drew).bind fun v210 =>
      (QfieldAddr Try.prog 41 v210 0).bind fun v211 =>
      (Qload Try.prog 23 v211 w.drew).bind fun v212 =>
      (QindexAddr Try.prog 22 x0 x7 w.drew).bind fun v213 =>
      (QfieldAddr Try.prog 41 v213 1).bind fun v214 =>
      (Qload Try.prog 3 v214 w.drew).bind fun v215 =>
      (QindexAddr Try.prog 22 x0 x7 w.drew).bind fun v216 =>
      (QfieldAddr Try.prog 41 v216 2).bind fun v217 =>
      (Qload Try.prog 34 v217 w.drew).bind fun v218 =>
      (Xcall Try.prog (Value.func (Fn.func 20) #[] #[]) #[x6, v212, v215, v218] w.drew).bind fun r219 =>
      (Qbin Try.prog Go.BinOp.neq 37 r219.1 (Go.Value.int Go.IntKind.i64 0)).bind fun v220 =>
      chkK True (
        condK v220 (
          (Qbin Try.prog Go.BinOp.add 3 x7 (Go.Value.int Go.IntKind.i64 1)).bind fun v221 =>
          some (Exit.normal, [x0, x2, x3, x5, x6, v221], r219.2)
        ) (
          s8L1 [x0, (g 1), x2, x3, (g 4), x5, x6, x7, (Go.Value.int Go.IntKind.i64 0), (g 9), (g 10), (g 11), (g 12), (g 13), (g 14), (g 15), (g 16), (g 17), (g 18), (g 19), (g 20), (g 21), x7, x0, v206, v207, v207, (gv (isB v207 true) x7), v208, v209, (g 30), (g 31), x6, x0, x7, v210, v211, v212, x0, x7, v213, v214, v215, x0, x7, v216, v217, v218, r219.1, v220, (g 50), (g 51), (g 52), (g 53), (g 54), (g 55), (g 56), (g 57), (g 58), (g 59), (g 60), (g 61), (g 62), (g 63), (g 64), (g 65), (g 66), (g 67), (g 68), (g 69), (g 70), (g 71), (g 72), (g 73), (g 74), (g 75), (g 76), (g 77), (g 78), (g 79), (g 80), (g 81), (g 82), (g 83), (g 84), (g 85), (g 86), (g 87), (g 88), (g 89), (g 90), (g 91), (g 92), (g 93), (g 94), (g 95), (g 96), (g 97), (g 98), (g 99), (g 100), (g 101), (g 102), (g 103), (g 104), (g 105), (g 106), (g 107), (g 108), (g 109), (g 110), (g 111), (g 112), (g 113), (g 114), (g 115), (g 116), (g 117), (g 118), (g 119), (g 120), (g 121), (g 122), (g 123), (g 124), (g 125), (g 126), (g 127), (g 128), (g 129)] d r219.2
        )
      )
    ) (
      some ((Exit.exit 0), [x0, x2, x3, x5, x6, x7], w)
    )
  | _, _ => none
noncomputable def s8B0 : List Value → World → Option (Exit × List Value × World)
  | [x0, x2, x3, x5, x6, x7], w =>
    (Qlen Try.prog #[22] 3 #[x0] w).bind fun v206 =>
    (Qbin Try.prog Go.BinOp.lss 3 x7 v206).bind fun v207 =>
    (guardQ v207 true (Qbin Try.prog Go.BinOp.lss 3 (gv (isB v207 true) x7) (Go.Value.int Go.IntKind.i64 30))).bind fun v208 =>
    (Qpick v207 v208 (Go.Value.bool false)).bind fun v209 =>
    condK v209 (
      (QindexAddr Try.prog 22 x0 x7 w.drew).bind fun v210 =>
      (QfieldAddr Try.prog 41 v210 0).bind fun v211 =>
      (Qload Try.prog 23 v211 w.drew).bind fun v212 =>
      (QindexAddr Try.prog 22 x0 x7 w.drew).bind fun v213 =>
      (QfieldAddr Try.prog 41 v213 1).bind fun v214 =>
      (Qload Try.prog 3 v214 w.drew).bind fun v215 =>
      (QindexAddr Try.prog 22 x0 x7 w.drew).bind fun v216 =>
      (QfieldAddr Try.prog 41 v216 2).bind fun v217 =>
      (Qload Try.prog 34 v217 w.drew).bind fun v218 =>
      (Xcall Try.prog (Value.func (Fn.func 20) #[] #[]) #[x6, v212, v215, v218] w.drew).bind fun r219 =>
      (Qbin Try.prog Go.BinOp.neq 37 r219.1 (Go.Value.int Go.IntKind.i64 0)).bind fun v220 =>
      chkK True (
        condK v220 (
          (Qbin Try.prog Go.BinOp.add 3 x7 (Go.Value.int Go.IntKind.i64 1)).bind fun v221 =>
          some (Exit.normal, [x0, x2, x3, x5, x6, v221], r219.2)
        ) (
          loopR s8B1 s8R1 [x0, x2, x3, x5, x6, x7, (Go.Value.int Go.IntKind.i64 0)] r219.2
        )
      )
    ) (
      some ((Exit.exit 0), [x0, x2, x3, x5, x6, x7], w)
    )
  | _, _ => none
noncomputable def s8R0 : Exit → List Value → World → Option (Value × World)
  | (Exit.exit 0), [_, _, x3, x5, x6, _], w =>
    (Xcall Try.prog (Value.func (Fn.func 13) #[] #[]) #[] w).bind fun r222 =>
    (Qpick r222.1 (gv (isB r222.1 true) x5) (Go.Value.bool false)).bind fun v223 =>
    (guardX v223 true r222.2 (Xcall Try.prog (Value.func (Fn.func 21) #[] #[]) #[(gv (isB v223 true) x3)] r222.2)).bind fun r224 =>
    (guardX v223 true r224.2 (Xcall Try.prog (Value.func (Fn.func 21) #[] #[]) #[(gv (isB v223 true) x6)] r224.2)).bind fun r225 =>
    (guardQ v223 true (Qbin Try.prog Go.BinOp.eql 3 r224.1 r225.1)).bind fun v226 =>
    (Qpick v223 v226 (Go.Value.bool false)).bind fun v227 =>
    (guardX v227 true r225.2 (Xcall Try.prog (Value.func (Fn.func 21) #[] #[]) #[(gv (isB v227 true) x3)] r225.2)).bind fun r228 =>
    (guardQ v227 true (Qbin Try.prog Go.BinOp.leq 3 r228.1 (Go.Value.int Go.IntKind.i64 8))).bind fun v229 =>
    (Qpick v227 v229 (Go.Value.bool false)).bind fun v230 =>
    some (v230, r228.2)
  | Exit.ret, [_, x2, _, _, _, _], w =>
    some (x2, w)
  | _, _, _ => none
noncomputable def s8raw (x0 : Value) (w : World) : Option (Value × World) :=
  (Xcall Try.prog (Value.func (Fn.func 12) #[] #[]) #[x0] w).bind fun r201 =>
  (Qext r201.1 0).bind fun v202 =>
  (Qext r201.1 1).bind fun v203 =>
  (Qext r201.1 2).bind fun v204 =>
  (Xcall Try.prog (Value.func (Fn.func 19) #[] #[]) #[] r201.2).bind fun r205 =>
  s8L0 [x0, undef, (Go.Value.bool false), v202, v203, v204, r205.1, (Go.Value.int Go.IntKind.i64 0), undef, undef, undef, undef, undef, undef, undef, r201.1, x0, r201.1, v202, v203, v204, r205.1, undef, undef, undef, undef, undef, undef, undef, undef, undef, undef, undef, undef, undef, undef, undef, undef, undef, undef, undef, undef, undef, undef, undef, undef, undef, undef, undef, undef, undef, undef, undef, undef, undef, undef, undef, undef, undef, undef, undef, undef, undef, undef, undef, undef, undef, undef, undef, undef, undef, undef, undef, undef, undef, undef, undef, undef, undef, undef, undef, undef, undef, undef, undef, undef, undef, undef, undef, undef, undef, undef, undef, undef, undef, undef, undef, undef, undef, undef, undef, undef, undef, undef, undef, undef, undef, undef, undef, undef, undef, undef, undef, undef, undef, undef, undef, undef, undef, undef, undef, undef, undef, undef, undef, undef, undef, undef, undef, undef] [] r205.2
noncomputable def s8 (x0 : Value) (w : World) : Option (Value × World) :=
  (Xcall Try.prog (Value.func (Fn.func 12) #[] #[]) #[x0] w).bind fun r201 =>
  (Qext r201.1 0).bind fun v202 =>
  (Qext r201.1 1).bind fun _ =>
  (Qext r201.1 2).bind fun v204 =>
  (Xcall Try.prog (Value.func (Fn.func 19) #[] #[]) #[] r201.2).bind fun r205 =>
  loopR s8B0 s8R0 [x0, (Go.Value.bool false), v202, v204, r205.1, (Go.Value.int Go.IntKind.i64 0)] r205.2
theorem s8B1eq (x0 x2 x3 x5 x6 x7 x8 : Value) (w : World) (g : Nat → Value) (d : List Deferred) : evK Try.prog 8 none (nav [1, 1, 1, 0, 1, 0, 0, 1, 0, 0, 1, 0, 1, 0, 0] (bodyOf Try.f8)) none _ (frm 130 (setL [0, 2, 3, 5, 6, 7, 8] [x0, x2, x3, x5, x6, x7, x8] g) d) w (projK [0, 2, 3, 5, 6, 7, 8]) = s8B1 [x0, x2, x3, x5, x6, x7, x8] w := by kernel_rfl
theorem s8R1x2eq (x0 x2 x3 x5 x6 x7 x8 : Value) (g : Nat → Value) (w : World) : s8K5 (Exit.exit 2) (frm 130 (setL [0, 2, 3, 5, 6, 7, 8] [x0, x2, x3, x5, x6, x7, x8] g) []) w = s8R1 (Exit.exit 2) [x0, x2, x3, x5, x6, x7, x8] w := by kernel_rfl
theorem s8R1ret_eq (x0 x2 x3 x5 x6 x7 x8 : Value) (g : Nat → Value) (w : World) : s8K5 Exit.ret (frm 130 (setL [0, 2, 3, 5, 6, 7, 8] [x0, x2, x3, x5, x6, x7, x8] g) []) w = s8R1 Exit.ret [x0, x2, x3, x5, x6, x7, x8] w := by kernel_rfl
theorem s8R1of : ∀ (e : Exit) (xs : List Value) (w : World) (g : Nat → Value) (y : _), s8R1 e xs w = some y → s8K5 e (frm 130 (setL [0, 2, 3, 5, 6, 7, 8] xs g) []) w = some y := by
  intro e xs w g y h
  unfold s8R1 at h
  split at h
  · exact (s8R1x2eq _ _ _ _ _ _ _ g _).trans h
  · exact (s8R1ret_eq _ _ _ _ _ _ _ g _).trans h
  · cases h
theorem s8L1of {s0 s1 s2 s3 s4 s5 s6 s7 s8 s9 s10 s11 s12 s13 s14 s15 s16 s17 s18 s19 s20 s21 s22 s23 s24 s25 s26 s27 s28 s29 s30 s31 s32 s33 s34 s35 s36 s37 s38 s39 s40 s41 s42 s43 s44 s45 s46 s47 s48 s49 s50 s51 s52 s53 s54 s55 s56 s57 s58 s59 s60 s61 s62 s63 s64 s65 s66 s67 s68 s69 s70 s71 s72 s73 s74 s75 s76 s77 s78 s79 s80 s81 s82 s83 s84 s85 s86 s87 s88 s89 s90 s91 s92 s93 s94 s95 s96 s97 s98 s99 s100 s101 s102 s103 s104 s105 s106 s107 s108 s109 s110 s111 s112 s113 s114 s115 s116 s117 s118 s119 s120 s121 s122 s123 s124 s125 s126 s127 s128 s129 : Value} {w : World} {r : _} (h : loopR s8B1 s8R1 [s0, s2, s3, s5, s6, s7, s8] w = some r) : s8L1 [s0, s1, s2, s3, s4, s5, s6, s7, s8, s9, s10, s11, s12, s13, s14, s15, s16, s17, s18, s19, s20, s21, s22, s23, s24, s25, s26, s27, s28, s29, s30, s31, s32, s33, s34, s35, s36, s37, s38, s39, s40, s41, s42, s43, s44, s45, s46, s47, s48, s49, s50, s51, s52, s53, s54, s55, s56, s57, s58, s59, s60, s61, s62, s63, s64, s65, s66, s67, s68, s69, s70, s71, s72, s73, s74, s75, s76, s77, s78, s79, s80, s81, s82, s83, s84, s85, s86, s87, s88, s89, s90, s91, s92, s93, s94, s95, s96, s97, s98, s99, s100, s101, s102, s103, s104, s105, s106, s107, s108, s109, s110, s111, s112, s113, s114, s115, s116, s117, s118, s119, s120, s121, s122, s123, s124, s125, s126, s127, s128, s129] [] w = some r :=
  loopN_of (B := s8B1) (R := s8R1) (n := 130) (live := [0, 2, 3, 5, 6, 7, 8]) (fun xs w g y hl h => match xs, hl, h with | [x0, x2, x3, x5, x6, x7, x8], _, h => (s8B1eq x0 x2 x3 x5 x6 x7 x8 w g []).trans h) (by kernel_rfl) (s8R1of) (fun i => ([s0, s1, s2, s3, s4, s5, s6, s7, s8, s9, s10, s11, s12, s13, s14, s15, s16, s17, s18, s19, s20, s21, s22, s23, s24, s25, s26, s27, s28, s29, s30, s31, s32, s33, s34, s35, s36, s37, s38, s39, s40, s41, s42, s43, s44, s45, s46, s47, s48, s49, s50, s51, s52, s53, s54, s55, s56, s57, s58, s59, s60, s61, s62, s63, s64, s65, s66, s67, s68, s69, s70, s71, s72, s73, s74, s75, s76, s77, s78, s79, s80, s81, s82, s83, s84, s85, s86, s87, s88, s89, s90, s91, s92, s93, s94, s95, s96, s97, s98, s99, s100, s101, s102, s103, s104, s105, s106, s107, s108, s109, s110, s111, s112, s113, s114, s115, s116, s117, s118, s119, s120, s121, s122, s123, s124, s125, s126, s127, s128, s129] : List Value).getD i undef) (by kernel_rfl) rfl h
theorem s8B0eq (x0 x2 x3 x5 x6 x7 : Value) (w : World) (g : Nat → Value) (d : List Deferred) : evK Try.prog 8 none (nav [1, 1, 1, 0, 1, 0, 0] (bodyOf Try.f8)) none _ (frm 130 (setL [0, 2, 3, 5, 6, 7] [x0, x2, x3, x5, x6, x7] g) d) w (projK [0, 2, 3, 5, 6, 7]) = s8B0raw g d [x0, x2, x3, x5, x6, x7] w := by kernel_rfl
theorem s8R0x0eq (x0 x2 x3 x5 x6 x7 : Value) (g : Nat → Value) (w : World) : s8K1 (Exit.exit 0) (frm 130 (setL [0, 2, 3, 5, 6, 7] [x0, x2, x3, x5, x6, x7] g) []) w = s8R0 (Exit.exit 0) [x0, x2, x3, x5, x6, x7] w := by kernel_rfl
theorem s8R0ret_eq (x0 x2 x3 x5 x6 x7 : Value) (g : Nat → Value) (w : World) : s8K1 Exit.ret (frm 130 (setL [0, 2, 3, 5, 6, 7] [x0, x2, x3, x5, x6, x7] g) []) w = s8R0 Exit.ret [x0, x2, x3, x5, x6, x7] w := by kernel_rfl
theorem s8R0of : ∀ (e : Exit) (xs : List Value) (w : World) (g : Nat → Value) (y : _), s8R0 e xs w = some y → s8K1 e (frm 130 (setL [0, 2, 3, 5, 6, 7] xs g) []) w = some y := by
  intro e xs w g y h
  unfold s8R0 at h
  split at h
  · exact (s8R0x0eq _ _ _ _ _ _ g _).trans h
  · exact (s8R0ret_eq _ _ _ _ _ _ g _).trans h
  · cases h
theorem s8L0of {s0 s1 s2 s3 s4 s5 s6 s7 s8 s9 s10 s11 s12 s13 s14 s15 s16 s17 s18 s19 s20 s21 s22 s23 s24 s25 s26 s27 s28 s29 s30 s31 s32 s33 s34 s35 s36 s37 s38 s39 s40 s41 s42 s43 s44 s45 s46 s47 s48 s49 s50 s51 s52 s53 s54 s55 s56 s57 s58 s59 s60 s61 s62 s63 s64 s65 s66 s67 s68 s69 s70 s71 s72 s73 s74 s75 s76 s77 s78 s79 s80 s81 s82 s83 s84 s85 s86 s87 s88 s89 s90 s91 s92 s93 s94 s95 s96 s97 s98 s99 s100 s101 s102 s103 s104 s105 s106 s107 s108 s109 s110 s111 s112 s113 s114 s115 s116 s117 s118 s119 s120 s121 s122 s123 s124 s125 s126 s127 s128 s129 : Value} {w : World} {r : _} (h : loopR s8B0 s8R0 [s0, s2, s3, s5, s6, s7] w = some r) : s8L0 [s0, s1, s2, s3, s4, s5, s6, s7, s8, s9, s10, s11, s12, s13, s14, s15, s16, s17, s18, s19, s20, s21, s22, s23, s24, s25, s26, s27, s28, s29, s30, s31, s32, s33, s34, s35, s36, s37, s38, s39, s40, s41, s42, s43, s44, s45, s46, s47, s48, s49, s50, s51, s52, s53, s54, s55, s56, s57, s58, s59, s60, s61, s62, s63, s64, s65, s66, s67, s68, s69, s70, s71, s72, s73, s74, s75, s76, s77, s78, s79, s80, s81, s82, s83, s84, s85, s86, s87, s88, s89, s90, s91, s92, s93, s94, s95, s96, s97, s98, s99, s100, s101, s102, s103, s104, s105, s106, s107, s108, s109, s110, s111, s112, s113, s114, s115, s116, s117, s118, s119, s120, s121, s122, s123, s124, s125, s126, s127, s128, s129] [] w = some r :=
  loopN_of (B := s8B0) (R := s8R0) (n := 130) (live := [0, 2, 3, 5, 6, 7]) (fun xs w g y hl h => match xs, hl, h with | [x0, x2, x3, x5, x6, x7], _, h => (s8B0eq x0 x2 x3 x5 x6 x7 w g []).trans (show s8B0raw g [] [x0, x2, x3, x5, x6, x7] w = some y from (Ev.bind_mono fun (v206 : Value) => (Ev.bind_mono fun (v207 : Value) => (Ev.bind_mono fun (v208 : Value) => (Ev.bind_mono fun (v209 : Value) => (condK_mono (Ev.bind_mono fun (v210 : Value) => (Ev.bind_mono fun (v211 : Value) => (Ev.bind_mono fun (v212 : Value) => (Ev.bind_mono fun (v213 : Value) => (Ev.bind_mono fun (v214 : Value) => (Ev.bind_mono fun (v215 : Value) => (Ev.bind_mono fun (v216 : Value) => (Ev.bind_mono fun (v217 : Value) => (Ev.bind_mono fun (v218 : Value) => (Ev.bind_mono fun (r219 : Value × World) => (Ev.bind_mono fun (v220 : Value) => (chkK_mono (condK_mono id (s8L1of)))))))))))))) id))))) h)) (by kernel_rfl) (s8R0of) (fun i => ([s0, s1, s2, s3, s4, s5, s6, s7, s8, s9, s10, s11, s12, s13, s14, s15, s16, s17, s18, s19, s20, s21, s22, s23, s24, s25, s26, s27, s28, s29, s30, s31, s32, s33, s34, s35, s36, s37, s38, s39, s40, s41, s42, s43, s44, s45, s46, s47, s48, s49, s50, s51, s52, s53, s54, s55, s56, s57, s58, s59, s60, s61, s62, s63, s64, s65, s66, s67, s68, s69, s70, s71, s72, s73, s74, s75, s76, s77, s78, s79, s80, s81, s82, s83, s84, s85, s86, s87, s88, s89, s90, s91, s92, s93, s94, s95, s96, s97, s98, s99, s100, s101, s102, s103, s104, s105, s106, s107, s108, s109, s110, s111, s112, s113, s114, s115, s116, s117, s118, s119, s120, s121, s122, s123, s124, s125, s126, s127, s128, s129] : List Value).getD i undef) (by kernel_rfl) rfl h
theorem s8eq (x0 : Value) (w : World) : evK Try.prog 8 none (bodyOf Try.f8) none _ { tmps := (([x0] : List Value) ++ List.replicate (130 - 1) undef).toArray, defers := [] } w (leaveK Try.prog Try.f8) = s8raw x0 w := by kernel_rfl
theorem c8 {x0 : Value} {w : World} {r : Value × World} (h : s8 x0 w = some r) : C Try.prog 8 #[x0] w = some r :=
  C_ev follows_all drawLaw (by kernel_rfl) Try.func8 (by rfl) ((s8eq x0 w).trans (show s8raw x0 w = some r from (Ev.bind_mono fun (r201 : Value × World) => (Ev.bind_mono fun (v202 : Value) => (Ev.bind_mono fun (v203 : Value) => (Ev.bind_mono fun (v204 : Value) => (Ev.bind_mono fun (r205 : Value × World) => (s8L0of)))))) h))
theorem e8 {x0 : Value} {w : World} {Q : Value × World → Prop} (h : Brings (s8 x0 w) Q) : Brings (Xcall Try.prog (Value.func (Fn.func 8) #[] #[]) #[x0] w) Q :=
  h.call (Xcall_fn Try.func8 (by decide +kernel) (by rfl) _ _ _ w) fun _ h => c8 h

/-! lychgate/lychgatelaw11.SeqadjEmpty -/
noncomputable def s9 (x0 x1 : Value) (w : World) : Option (Value × World) :=
  (Xbox Try.prog 41 x1 w).bind fun r268 =>
  (Xcall Try.prog (Value.func (Fn.func 19) #[] #[]) #[] r268.2).bind fun r269 =>
  (QfieldAddr Try.prog 41 r268.1 0).bind fun v270 =>
  (Qload Try.prog 23 v270 r269.2).bind fun v271 =>
  (QfieldAddr Try.prog 41 r268.1 1).bind fun v272 =>
  (Qload Try.prog 3 v272 r269.2).bind fun v273 =>
  (Xcall Try.prog (Value.func (Fn.func 23) #[] #[]) #[(Go.Value.pointer none), v271, v273] r269.2).bind fun r274 =>
  (Qext r274.1 0).bind fun v275 =>
  (Qext r274.1 1).bind fun v276 =>
  (QfieldAddr Try.prog 41 r268.1 0).bind fun v277 =>
  (Qload Try.prog 23 v277 r274.2).bind fun v278 =>
  (QfieldAddr Try.prog 41 r268.1 1).bind fun v279 =>
  (Qload Try.prog 3 v279 r274.2).bind fun v280 =>
  (Xcall Try.prog (Value.func (Fn.func 23) #[] #[]) #[r269.1, v278, v280] r274.2).bind fun r281 =>
  (Qext r281.1 0).bind fun v282 =>
  (Qext r281.1 1).bind fun v283 =>
  (Xcall Try.prog (Value.func (Fn.func 13) #[] #[]) #[] r281.2).bind fun r284 =>
  (guardX r284.1 true r284.2 (Xcall Try.prog (Value.func (Fn.func 17) #[] #[]) #[(gv (isB r284.1 true) r269.1), (gv (isB r284.1 true) x0)] r284.2)).bind fun r285 =>
  (guardQ r284.1 true (Qbin Try.prog Go.BinOp.eql 23 r285.1 (gv (isB r284.1 true) x0))).bind fun v286 =>
  (Qpick r284.1 v286 (Go.Value.bool false)).bind fun v287 =>
  (guardX v287 true r285.2 (Xcall Try.prog (Value.func (Fn.func 16) #[] #[]) #[(gv (isB v287 true) r269.1), (gv (isB v287 true) x0)] r285.2)).bind fun r288 =>
  (guardQ v287 true (Qbin Try.prog Go.BinOp.eql 23 r288.1 (gv (isB v287 true) x0))).bind fun v289 =>
  (Qpick v287 v289 (Go.Value.bool false)).bind fun v290 =>
  (guardX v290 true r288.2 (Xcall Try.prog (Value.func (Fn.func 21) #[] #[]) #[(gv (isB v290 true) r269.1)] r288.2)).bind fun r291 =>
  (guardQ v290 true (Qbin Try.prog Go.BinOp.eql 3 r291.1 (Go.Value.int Go.IntKind.i64 0))).bind fun v292 =>
  (Qpick v290 v292 (Go.Value.bool false)).bind fun v293 =>
  (guardQ v293 true (Qun Go.UnOp.not (gv (isB v293 true) v283))).bind fun v294 =>
  (Qpick v293 v294 (Go.Value.bool false)).bind fun v295 =>
  (guardQ v295 true (Qlen Try.prog #[34] 3 #[(gv (isB v295 true) v282)] r291.2)).bind fun v296 =>
  (guardQ v295 true (Qbin Try.prog Go.BinOp.eql 3 v296 (Go.Value.int Go.IntKind.i64 0))).bind fun v297 =>
  (Qpick v295 v297 (Go.Value.bool false)).bind fun v298 =>
  (guardQ v298 true (QfieldAddr Try.prog 41 r268.1 0)).bind fun v299 =>
  (guardQ v298 true (Qload Try.prog 23 v299 r291.2)).bind fun v300 =>
  (guardQ v298 true (QfieldAddr Try.prog 41 r268.1 1)).bind fun v301 =>
  (guardQ v298 true (Qload Try.prog 3 v301 r291.2)).bind fun v302 =>
  (guardQ v298 true (QfieldAddr Try.prog 41 r268.1 2)).bind fun v303 =>
  (guardQ v298 true (Qload Try.prog 34 v303 r291.2)).bind fun v304 =>
  (guardX v298 true r291.2 (Xcall Try.prog (Value.func (Fn.func 20) #[] #[]) #[(gv (isB v298 true) (Go.Value.pointer none)), v300, v302, v304] r291.2)).bind fun r305 =>
  (guardQ v298 true (Qbin Try.prog Go.BinOp.eql 37 r305.1 (Go.Value.int Go.IntKind.i64 1))).bind fun v306 =>
  (Qpick v298 v306 (Go.Value.bool false)).bind fun v307 =>
  (guardQ v307 true (Qlen Try.prog #[34] 3 #[(gv (isB v307 true) v275)] r305.2)).bind fun v308 =>
  (guardQ v307 true (Qbin Try.prog Go.BinOp.eql 3 v308 (Go.Value.int Go.IntKind.i64 0))).bind fun v309 =>
  (Qpick v307 v309 (Go.Value.bool false)).bind fun v310 =>
  (guardQ v310 true (Qun Go.UnOp.not (gv (isB v310 true) v276))).bind fun v311 =>
  (Qpick v310 v311 (Go.Value.bool false)).bind fun v312 =>
  (guardX v312 true r305.2 (Xcall Try.prog (Value.func (Fn.func 17) #[] #[]) #[(gv (isB v312 true) (Go.Value.pointer none)), (gv (isB v312 true) x0)] r305.2)).bind fun r313 =>
  (guardQ v312 true (Qbin Try.prog Go.BinOp.eql 23 r313.1 (Go.Value.int Go.IntKind.u32 0))).bind fun v314 =>
  (Qpick v312 v314 (Go.Value.bool false)).bind fun v315 =>
  (guardX v315 true r313.2 (Xcall Try.prog (Value.func (Fn.func 16) #[] #[]) #[(gv (isB v315 true) (Go.Value.pointer none)), (gv (isB v315 true) x0)] r313.2)).bind fun r316 =>
  (guardQ v315 true (Qbin Try.prog Go.BinOp.eql 23 r316.1 (Go.Value.int Go.IntKind.u32 0))).bind fun v317 =>
  (Qpick v315 v317 (Go.Value.bool false)).bind fun v318 =>
  (guardX v318 true r316.2 (Xcall Try.prog (Value.func (Fn.func 21) #[] #[]) #[(gv (isB v318 true) (Go.Value.pointer none))] r316.2)).bind fun r319 =>
  (guardQ v318 true (Qbin Try.prog Go.BinOp.eql 3 r319.1 (Go.Value.int Go.IntKind.i64 0))).bind fun v320 =>
  (Qpick v318 v320 (Go.Value.bool false)).bind fun v321 =>
  (guardX v321 true r319.2 (Xcall Try.prog (Value.func (Fn.func 24) #[] #[]) #[(gv (isB v321 true) (Go.Value.pointer none))] r319.2)).bind fun r322 =>
  (guardQ v321 true (Qbin Try.prog Go.BinOp.eql 24 r322.1 (Go.Value.pointer none))).bind fun v323 =>
  (Qpick v321 v323 (Go.Value.bool false)).bind fun v324 =>
  some (v324, r322.2)
theorem s9eq (x0 x1 : Value) (w : World) : evK Try.prog 9 none (bodyOf Try.f9) none _ { tmps := (([x0, x1] : List Value) ++ List.replicate (101 - 2) undef).toArray, defers := [] } w (leaveK Try.prog Try.f9) = s9 x0 x1 w := by kernel_rfl
theorem c9 {x0 x1 : Value} {w : World} {r : Value × World} (h : s9 x0 x1 w = some r) : C Try.prog 9 #[x0, x1] w = some r :=
  C_ev follows_all drawLaw (by kernel_rfl) Try.func9 (by rfl) ((s9eq x0 x1 w).trans h)
theorem e9 {x0 x1 : Value} {w : World} {Q : Value × World → Prop} (h : Brings (s9 x0 x1 w) Q) : Brings (Xcall Try.prog (Value.func (Fn.func 9) #[] #[]) #[x0, x1] w) Q :=
  h.call (Xcall_fn Try.func9 (by decide +kernel) (by rfl) _ _ _ w) fun _ h => c9 h

/-! lychgate/lychgatelaw11.SeqadjForks -/
noncomputable def s10K0 : Exit → Act → World → Option (Value × World) := seqK (fun a w => evK Try.prog 10 none (nav [1, 1, 1, 1, 1] (bodyOf Try.f10)) none _ a w (leaveK Try.prog Try.f10)) (leaveK Try.prog Try.f10)
noncomputable def s10K1 : Exit → Act → World → Option (Value × World) := blockK 0 s10K0
noncomputable def s10L0 (s : List Value) (d : List Deferred) (w : World) : Option (Value × World) := loopN Try.prog 10 none (nav [1, 1, 1, 1, 0, 1, 0, 0] (bodyOf Try.f10)) s10K1 s d w
noncomputable def s10K2 : Exit → Act → World → Option (Value × World) := seqK (fun a w => evK Try.prog 10 none (nav [1, 1, 1, 1, 1, 1] (bodyOf Try.f10)) none _ a w (leaveK Try.prog Try.f10)) (leaveK Try.prog Try.f10)
noncomputable def s10K3 : Exit → Act → World → Option (Value × World) := blockK 2 s10K2
noncomputable def s10L1 (s : List Value) (d : List Deferred) (w : World) : Option (Value × World) := loopN Try.prog 10 none (nav [1, 1, 1, 1, 1, 0, 1, 0, 0] (bodyOf Try.f10)) s10K3 s d w
noncomputable def s10K4 : Exit → Act → World → Option (Exit × List Value × World) := seqK (fun a w => evK Try.prog 10 none (nav [1, 1, 1, 1, 1, 0, 1, 0, 0, 1, 1] (bodyOf Try.f10)) none _ a w (projK [0, 2, 6, 7, 8, 12])) (projK [0, 2, 6, 7, 8, 12])
noncomputable def s10K5 : Exit → Act → World → Option (Exit × List Value × World) := blockK 3 s10K4
noncomputable def s10K6 : Exit → Act → World → Option (Exit × List Value × World) := seqK (fun a w => evK Try.prog 10 none (nav [1, 1, 1, 1, 1, 0, 1, 0, 0, 1, 0, 0, 1] (bodyOf Try.f10)) none _ a w s10K5) s10K5
noncomputable def s10J2 (s : List Value) (d : List Deferred) (w : World) : Option (Exit × List Value × World) := s10K6 .normal ⟨s.toArray, d⟩ w
noncomputable def s10M2 (s0 s2 s6 s7 s8 s12 : Value) (w : World) : Option (Exit × List Value × World) :=
  (QindexAddr Try.prog 22 s0 s12 w).bind fun v369 =>
  (Qload Try.prog 41 v369 w).bind fun v370 =>
  (Xcall Try.prog (Value.func (Fn.func 22) #[] #[]) #[s7, s8, v370, s2] w).bind fun r371 =>
  (Qun Go.UnOp.not r371.1).bind fun v372 =>
  condK v372 (
    some (Exit.ret, [s0, s2, (Go.Value.bool false), s7, s8, s12], r371.2)
  ) (
    (Qbin Try.prog Go.BinOp.add 3 s12 (Go.Value.int Go.IntKind.i64 1)).bind fun v373 =>
    some (Exit.normal, [s0, s2, s6, s7, s8, v373], r371.2)
  )
noncomputable def s10B1raw (g : Nat → Value) (d : List Deferred) : List Value → World → Option (Exit × List Value × World)
  | [x0, x2, x6, x7, x8, x12], w =>
    (Qlen Try.prog #[22] 3 #[x0] w).bind fun v349 =>
    (Qbin Try.prog Go.BinOp.lss 3 x12 v349).bind fun v350 =>
    (guardQ v350 true (Qbin Try.prog Go.BinOp.lss 3 (gv (isB v350 true) x12) (Go.Value.int Go.IntKind.i64 30))).bind fun v351 =>
    (Qpick v350 v351 (Go.Value.bool false)).bind fun v352 =>
    condK v352 (
      (QindexAddr Try.prog 22 x0 x12 w.drew).bind fun v353 =>
      (QfieldAddr Try.prog 41 v353 0).bind fun v354 =>
      (Qload Try.prog 23 v354 w.drew).bind fun v355 =>
      (QindexAddr Try.prog 22 x0 x12 w.drew).bind fun v356 =>
      (QfieldAddr Try.prog 41 v356 1).bind fun v357 =>
      (Qload Try.prog 3 v357 w.drew).bind fun v358 =>
      (Xcall Try.prog (Value.func (Fn.func 23) #[] #[]) #[x7, v355, v358] w.drew).bind fun r359 =>
      (Qext r359.1 0).bind fun v360 =>
      (Qext r359.1 1).bind fun v361 =>
      chkK True (
        condK v361 (
          (QindexAddr Try.prog 34 v360 (Go.Value.int Go.IntKind.i64 0) r359.2).bind fun v362 =>
          (Qload Try.prog 5 v362 r359.2).bind fun v363 =>
          (Qbin Try.prog Go.BinOp.add 5 v363 (Go.Value.int Go.IntKind.u8 1)).bind fun v364 =>
          (QindexAddr Try.prog 34 v360 (Go.Value.int Go.IntKind.i64 0) r359.2).bind fun v365 =>
          (Xstore Try.prog 5 v365 v364 r359.2).bind fun r366 =>
          s10J2 [x0, (g 1), x2, (g 3), (g 4), (g 5), x6, x7, x8, (g 9), (g 10), (g 11), x12, v360, v361, (g 15), (g 16), (g 17), (g 18), (g 19), (g 20), (g 21), (g 22), (g 23), (g 24), (g 25), (g 26), (g 27), (g 28), (g 29), (g 30), (g 31), (g 32), (g 33), (g 34), (g 35), (g 36), (g 37), (g 38), (g 39), (g 40), (g 41), (g 42), (g 43), (g 44), (g 45), (g 46), (g 47), (g 48), (g 49), (g 50), (g 51), (g 52), (g 53), (g 54), (g 55), x12, x0, v349, v350, v350, (gv (isB v350 true) x12), v351, v352, (g 64), (g 65), r359.1, x7, x0, x12, v353, v354, v355, x0, x12, v356, v357, v358, r359.1, v360, v361, v361, v360, v362, v363, v364, v365, (g 87), (g 88), (g 89), (g 90), (g 91), (g 92), (g 93), (g 94), (g 95), (g 96), (g 97), (g 98), (g 99), (g 100)] d r366.2
        ) (
          s10J2 [x0, (g 1), x2, (g 3), (g 4), (g 5), x6, x7, x8, (g 9), (g 10), (g 11), x12, v360, v361, (g 15), (g 16), (g 17), (g 18), (g 19), (g 20), (g 21), (g 22), (g 23), (g 24), (g 25), (g 26), (g 27), (g 28), (g 29), (g 30), (g 31), (g 32), (g 33), (g 34), (g 35), (g 36), (g 37), (g 38), (g 39), (g 40), (g 41), (g 42), (g 43), (g 44), (g 45), (g 46), (g 47), (g 48), (g 49), (g 50), (g 51), (g 52), (g 53), (g 54), (g 55), x12, x0, v349, v350, v350, (gv (isB v350 true) x12), v351, v352, (g 64), (g 65), r359.1, x7, x0, x12, v353, v354, v355, x0, x12, v356, v357, v358, r359.1, v360, v361, v361, (g 82), (g 83), (g 84), (g 85), (g 86), (g 87), (g 88), (g 89), (g 90), (g 91), (g 92), (g 93), (g 94), (g 95), (g 96), (g 97), (g 98), (g 99), (g 100)] d r359.2
        )
      )
    ) (
      some ((Exit.exit 2), [x0, x2, x6, x7, x8, x12], w)
    )
  | _, _ => none
noncomputable def s10B1 : List Value → World → Option (Exit × List Value × World)
  | [x0, x2, x6, x7, x8, x12], w =>
    (Qlen Try.prog #[22] 3 #[x0] w).bind fun v349 =>
    (Qbin Try.prog Go.BinOp.lss 3 x12 v349).bind fun v350 =>
    (guardQ v350 true (Qbin Try.prog Go.BinOp.lss 3 (gv (isB v350 true) x12) (Go.Value.int Go.IntKind.i64 30))).bind fun v351 =>
    (Qpick v350 v351 (Go.Value.bool false)).bind fun v352 =>
    condK v352 (
      (QindexAddr Try.prog 22 x0 x12 w.drew).bind fun v353 =>
      (QfieldAddr Try.prog 41 v353 0).bind fun v354 =>
      (Qload Try.prog 23 v354 w.drew).bind fun v355 =>
      (QindexAddr Try.prog 22 x0 x12 w.drew).bind fun v356 =>
      (QfieldAddr Try.prog 41 v356 1).bind fun v357 =>
      (Qload Try.prog 3 v357 w.drew).bind fun v358 =>
      (Xcall Try.prog (Value.func (Fn.func 23) #[] #[]) #[x7, v355, v358] w.drew).bind fun r359 =>
      (Qext r359.1 0).bind fun v360 =>
      (Qext r359.1 1).bind fun v361 =>
      chkK True (
        condK v361 (
          (QindexAddr Try.prog 34 v360 (Go.Value.int Go.IntKind.i64 0) r359.2).bind fun v362 =>
          (Qload Try.prog 5 v362 r359.2).bind fun v363 =>
          (Qbin Try.prog Go.BinOp.add 5 v363 (Go.Value.int Go.IntKind.u8 1)).bind fun v364 =>
          (QindexAddr Try.prog 34 v360 (Go.Value.int Go.IntKind.i64 0) r359.2).bind fun v365 =>
          (Xstore Try.prog 5 v365 v364 r359.2).bind fun r366 =>
          s10M2 x0 x2 x6 x7 x8 x12 r366.2
        ) (
          s10M2 x0 x2 x6 x7 x8 x12 r359.2
        )
      )
    ) (
      some ((Exit.exit 2), [x0, x2, x6, x7, x8, x12], w)
    )
  | _, _ => none
noncomputable def s10R1 : Exit → List Value → World → Option (Value × World)
  | (Exit.exit 2), [_, x2, _, x7, x8, _], w =>
    (Qbuild Try.prog 41 #[] w).bind fun v367 =>
    (Xcall Try.prog (Value.func (Fn.func 22) #[] #[]) #[x7, x8, v367, x2] w).bind fun r368 =>
    some (r368.1, r368.2)
  | Exit.ret, [_, _, x6, _, _, _], w =>
    some (x6, w)
  | _, _, _ => none
noncomputable def s10B0 : List Value → World → Option (Exit × List Value × World)
  | [x0, x1, x2, x6, x7, x8, x10, x11], w =>
    (Qlen Try.prog #[22] 3 #[x1] w).bind fun v334 =>
    (Qbin Try.prog Go.BinOp.lss 3 x11 v334).bind fun v335 =>
    (guardQ v335 true (Qbin Try.prog Go.BinOp.lss 3 (gv (isB v335 true) x11) (Go.Value.int Go.IntKind.i64 20))).bind fun v336 =>
    (Qpick v335 v336 (Go.Value.bool false)).bind fun v337 =>
    condK v337 (
      (QindexAddr Try.prog 22 x1 x11 w.drew).bind fun v338 =>
      (QfieldAddr Try.prog 41 v338 0).bind fun v339 =>
      (Qload Try.prog 23 v339 w.drew).bind fun v340 =>
      (QindexAddr Try.prog 22 x1 x11 w.drew).bind fun v341 =>
      (QfieldAddr Try.prog 41 v341 1).bind fun v342 =>
      (Qload Try.prog 3 v342 w.drew).bind fun v343 =>
      (QindexAddr Try.prog 22 x1 x11 w.drew).bind fun v344 =>
      (QfieldAddr Try.prog 41 v344 2).bind fun v345 =>
      (Qload Try.prog 34 v345 w.drew).bind fun v346 =>
      (Xcall Try.prog (Value.func (Fn.func 20) #[] #[]) #[x10, v340, v343, v346] w.drew).bind fun r347 =>
      chkK True (
        (Qbin Try.prog Go.BinOp.add 3 x11 (Go.Value.int Go.IntKind.i64 1)).bind fun v348 =>
        some (Exit.normal, [x0, x1, x2, x6, x7, x8, x10, v348], r347.2)
      )
    ) (
      some ((Exit.exit 0), [x0, x1, x2, x6, x7, x8, x10, x11], w)
    )
  | _, _ => none
noncomputable def s10R0 : Exit → List Value → World → Option (Value × World)
  | (Exit.exit 0), [x0, _, x2, x6, x7, x8, _, _], w =>
    loopR s10B1 s10R1 [x0, x2, x6, x7, x8, (Go.Value.int Go.IntKind.i64 0)] w
  | _, _, _ => none
noncomputable def s10R0x0raw (x0 x1 x2 x6 x7 x8 x10 x11 : Value) (g : Nat → Value) (w : World) : Option (Value × World) :=
  s10L1 [x0, x1, x2, (g 3), (g 4), (g 5), x6, x7, x8, (g 9), x10, x11, (Go.Value.int Go.IntKind.i64 0), (g 13), (g 14), (g 15), (g 16), (g 17), (g 18), (g 19), (g 20), (g 21), (g 22), (g 23), (g 24), (g 25), (g 26), (g 27), (g 28), (g 29), (g 30), (g 31), (g 32), (g 33), (g 34), (g 35), (g 36), (g 37), (g 38), (g 39), (g 40), (g 41), (g 42), (g 43), (g 44), (g 45), (g 46), (g 47), (g 48), (g 49), (g 50), (g 51), (g 52), (g 53), (g 54), (g 55), (g 56), (g 57), (g 58), (g 59), (g 60), (g 61), (g 62), (g 63), (g 64), (g 65), (g 66), (g 67), (g 68), (g 69), (g 70), (g 71), (g 72), (g 73), (g 74), (g 75), (g 76), (g 77), (g 78), (g 79), (g 80), (g 81), (g 82), (g 83), (g 84), (g 85), (g 86), (g 87), (g 88), (g 89), (g 90), (g 91), (g 92), (g 93), (g 94), (g 95), (g 96), (g 97), (g 98), (g 99), (g 100)] [] w
noncomputable def s10raw (x0 x1 x2 : Value) (w : World) : Option (Value × World) :=
  (Xcall Try.prog (Value.func (Fn.func 12) #[] #[]) #[x0] w).bind fun r325 =>
  (Qext r325.1 0).bind fun v326 =>
  (Qext r325.1 1).bind fun v327 =>
  (Qext r325.1 2).bind fun v328 =>
  (Xcall Try.prog (Value.func (Fn.func 13) #[] #[]) #[] r325.2).bind fun r329 =>
  (Qun Go.UnOp.not r329.1).bind fun v330 =>
  (guardQ v330 false (Qun Go.UnOp.not (gv (isB v330 false) v328))).bind fun v331 =>
  (Qpick v330 (Go.Value.bool true) v331).bind fun v332 =>
  condK v332 (
    some ((Go.Value.bool false), r329.2)
  ) (
    (Xcall Try.prog (Value.func (Fn.func 24) #[] #[]) #[v326] r329.2).bind fun r333 =>
    s10L0 [x0, x1, x2, undef, undef, undef, (Go.Value.bool false), v326, v327, v328, r333.1, (Go.Value.int Go.IntKind.i64 0), undef, undef, undef, r325.1, x0, r325.1, v326, v327, v328, r329.1, v330, v330, (gv (isB v330 false) v328), v331, v332, v326, r333.1, undef, undef, undef, undef, undef, undef, undef, undef, undef, undef, undef, undef, undef, undef, undef, undef, undef, undef, undef, undef, undef, undef, undef, undef, undef, undef, undef, undef, undef, undef, undef, undef, undef, undef, undef, undef, undef, undef, undef, undef, undef, undef, undef, undef, undef, undef, undef, undef, undef, undef, undef, undef, undef, undef, undef, undef, undef, undef, undef, undef, undef, undef, undef, undef, undef, undef, undef, undef, undef, undef, undef, undef] [] r333.2
  )
noncomputable def s10 (x0 x1 x2 : Value) (w : World) : Option (Value × World) :=
  (Xcall Try.prog (Value.func (Fn.func 12) #[] #[]) #[x0] w).bind fun r325 =>
  (Qext r325.1 0).bind fun v326 =>
  (Qext r325.1 1).bind fun v327 =>
  (Qext r325.1 2).bind fun v328 =>
  (Xcall Try.prog (Value.func (Fn.func 13) #[] #[]) #[] r325.2).bind fun r329 =>
  (Qun Go.UnOp.not r329.1).bind fun v330 =>
  (guardQ v330 false (Qun Go.UnOp.not (gv (isB v330 false) v328))).bind fun v331 =>
  (Qpick v330 (Go.Value.bool true) v331).bind fun v332 =>
  condK v332 (
    some ((Go.Value.bool false), r329.2)
  ) (
    (Xcall Try.prog (Value.func (Fn.func 24) #[] #[]) #[v326] r329.2).bind fun r333 =>
    loopR s10B0 s10R0 [x0, x1, x2, (Go.Value.bool false), v326, v327, r333.1, (Go.Value.int Go.IntKind.i64 0)] r333.2
  )
theorem s10J2eq (s0 s1 s2 s3 s4 s5 s6 s7 s8 s9 s10 s11 s12 s13 s14 s15 s16 s17 s18 s19 s20 s21 s22 s23 s24 s25 s26 s27 s28 s29 s30 s31 s32 s33 s34 s35 s36 s37 s38 s39 s40 s41 s42 s43 s44 s45 s46 s47 s48 s49 s50 s51 s52 s53 s54 s55 s56 s57 s58 s59 s60 s61 s62 s63 s64 s65 s66 s67 s68 s69 s70 s71 s72 s73 s74 s75 s76 s77 s78 s79 s80 s81 s82 s83 s84 s85 s86 s87 s88 s89 s90 s91 s92 s93 s94 s95 s96 s97 s98 s99 s100 : Value) (w : World) : s10J2 [s0, s1, s2, s3, s4, s5, s6, s7, s8, s9, s10, s11, s12, s13, s14, s15, s16, s17, s18, s19, s20, s21, s22, s23, s24, s25, s26, s27, s28, s29, s30, s31, s32, s33, s34, s35, s36, s37, s38, s39, s40, s41, s42, s43, s44, s45, s46, s47, s48, s49, s50, s51, s52, s53, s54, s55, s56, s57, s58, s59, s60, s61, s62, s63, s64, s65, s66, s67, s68, s69, s70, s71, s72, s73, s74, s75, s76, s77, s78, s79, s80, s81, s82, s83, s84, s85, s86, s87, s88, s89, s90, s91, s92, s93, s94, s95, s96, s97, s98, s99, s100] [] w = s10M2 s0 s2 s6 s7 s8 s12 w := (show s10J2 [s0, s1, s2, s3, s4, s5, s6, s7, s8, s9, s10, s11, s12, s13, s14, s15, s16, s17, s18, s19, s20, s21, s22, s23, s24, s25, s26, s27, s28, s29, s30, s31, s32, s33, s34, s35, s36, s37, s38, s39, s40, s41, s42, s43, s44, s45, s46, s47, s48, s49, s50, s51, s52, s53, s54, s55, s56, s57, s58, s59, s60, s61, s62, s63, s64, s65, s66, s67, s68, s69, s70, s71, s72, s73, s74, s75, s76, s77, s78, s79, s80, s81, s82, s83, s84, s85, s86, s87, s88, s89, s90, s91, s92, s93, s94, s95, s96, s97, s98, s99, s100] [] w = evK Try.prog 10 none (nav [1, 1, 1, 1, 1, 0, 1, 0, 0, 1, 0, 0, 1] (bodyOf Try.f10)) none _ ⟨[s0, s1, s2, s3, s4, s5, s6, s7, s8, s9, s10, s11, s12, s13, s14, s15, s16, s17, s18, s19, s20, s21, s22, s23, s24, s25, s26, s27, s28, s29, s30, s31, s32, s33, s34, s35, s36, s37, s38, s39, s40, s41, s42, s43, s44, s45, s46, s47, s48, s49, s50, s51, s52, s53, s54, s55, s56, s57, s58, s59, s60, s61, s62, s63, s64, s65, s66, s67, s68, s69, s70, s71, s72, s73, s74, s75, s76, s77, s78, s79, s80, s81, s82, s83, s84, s85, s86, s87, s88, s89, s90, s91, s92, s93, s94, s95, s96, s97, s98, s99, s100].toArray, []⟩ w s10K5 from by kernel_rfl).trans (by kernel_rfl)
theorem s10J2of {s0 s1 s2 s3 s4 s5 s6 s7 s8 s9 s10 s11 s12 s13 s14 s15 s16 s17 s18 s19 s20 s21 s22 s23 s24 s25 s26 s27 s28 s29 s30 s31 s32 s33 s34 s35 s36 s37 s38 s39 s40 s41 s42 s43 s44 s45 s46 s47 s48 s49 s50 s51 s52 s53 s54 s55 s56 s57 s58 s59 s60 s61 s62 s63 s64 s65 s66 s67 s68 s69 s70 s71 s72 s73 s74 s75 s76 s77 s78 s79 s80 s81 s82 s83 s84 s85 s86 s87 s88 s89 s90 s91 s92 s93 s94 s95 s96 s97 s98 s99 s100 : Value} {w : World} {r : _} (h : s10M2 s0 s2 s6 s7 s8 s12 w = some r) : s10J2 [s0, s1, s2, s3, s4, s5, s6, s7, s8, s9, s10, s11, s12, s13, s14, s15, s16, s17, s18, s19, s20, s21, s22, s23, s24, s25, s26, s27, s28, s29, s30, s31, s32, s33, s34, s35, s36, s37, s38, s39, s40, s41, s42, s43, s44, s45, s46, s47, s48, s49, s50, s51, s52, s53, s54, s55, s56, s57, s58, s59, s60, s61, s62, s63, s64, s65, s66, s67, s68, s69, s70, s71, s72, s73, s74, s75, s76, s77, s78, s79, s80, s81, s82, s83, s84, s85, s86, s87, s88, s89, s90, s91, s92, s93, s94, s95, s96, s97, s98, s99, s100] [] w = some r :=
  ((s10J2eq s0 s1 s2 s3 s4 s5 s6 s7 s8 s9 s10 s11 s12 s13 s14 s15 s16 s17 s18 s19 s20 s21 s22 s23 s24 s25 s26 s27 s28 s29 s30 s31 s32 s33 s34 s35 s36 s37 s38 s39 s40 s41 s42 s43 s44 s45 s46 s47 s48 s49 s50 s51 s52 s53 s54 s55 s56 s57 s58 s59 s60 s61 s62 s63 s64 s65 s66 s67 s68 s69 s70 s71 s72 s73 s74 s75 s76 s77 s78 s79 s80 s81 s82 s83 s84 s85 s86 s87 s88 s89 s90 s91 s92 s93 s94 s95 s96 s97 s98 s99 s100 w).trans h)
theorem s10B1eq (x0 x2 x6 x7 x8 x12 : Value) (w : World) (g : Nat → Value) (d : List Deferred) : evK Try.prog 10 none (nav [1, 1, 1, 1, 1, 0, 1, 0, 0] (bodyOf Try.f10)) none _ (frm 101 (setL [0, 2, 6, 7, 8, 12] [x0, x2, x6, x7, x8, x12] g) d) w (projK [0, 2, 6, 7, 8, 12]) = s10B1raw g d [x0, x2, x6, x7, x8, x12] w := by kernel_rfl
theorem s10R1x2eq (x0 x2 x6 x7 x8 x12 : Value) (g : Nat → Value) (w : World) : s10K3 (Exit.exit 2) (frm 101 (setL [0, 2, 6, 7, 8, 12] [x0, x2, x6, x7, x8, x12] g) []) w = s10R1 (Exit.exit 2) [x0, x2, x6, x7, x8, x12] w := by kernel_rfl
theorem s10R1ret_eq (x0 x2 x6 x7 x8 x12 : Value) (g : Nat → Value) (w : World) : s10K3 Exit.ret (frm 101 (setL [0, 2, 6, 7, 8, 12] [x0, x2, x6, x7, x8, x12] g) []) w = s10R1 Exit.ret [x0, x2, x6, x7, x8, x12] w := by kernel_rfl
theorem s10R1of : ∀ (e : Exit) (xs : List Value) (w : World) (g : Nat → Value) (y : _), s10R1 e xs w = some y → s10K3 e (frm 101 (setL [0, 2, 6, 7, 8, 12] xs g) []) w = some y := by
  intro e xs w g y h
  unfold s10R1 at h
  split at h
  · exact (s10R1x2eq _ _ _ _ _ _ g _).trans h
  · exact (s10R1ret_eq _ _ _ _ _ _ g _).trans h
  · cases h
theorem s10L1of {s0 s1 s2 s3 s4 s5 s6 s7 s8 s9 s10 s11 s12 s13 s14 s15 s16 s17 s18 s19 s20 s21 s22 s23 s24 s25 s26 s27 s28 s29 s30 s31 s32 s33 s34 s35 s36 s37 s38 s39 s40 s41 s42 s43 s44 s45 s46 s47 s48 s49 s50 s51 s52 s53 s54 s55 s56 s57 s58 s59 s60 s61 s62 s63 s64 s65 s66 s67 s68 s69 s70 s71 s72 s73 s74 s75 s76 s77 s78 s79 s80 s81 s82 s83 s84 s85 s86 s87 s88 s89 s90 s91 s92 s93 s94 s95 s96 s97 s98 s99 s100 : Value} {w : World} {r : _} (h : loopR s10B1 s10R1 [s0, s2, s6, s7, s8, s12] w = some r) : s10L1 [s0, s1, s2, s3, s4, s5, s6, s7, s8, s9, s10, s11, s12, s13, s14, s15, s16, s17, s18, s19, s20, s21, s22, s23, s24, s25, s26, s27, s28, s29, s30, s31, s32, s33, s34, s35, s36, s37, s38, s39, s40, s41, s42, s43, s44, s45, s46, s47, s48, s49, s50, s51, s52, s53, s54, s55, s56, s57, s58, s59, s60, s61, s62, s63, s64, s65, s66, s67, s68, s69, s70, s71, s72, s73, s74, s75, s76, s77, s78, s79, s80, s81, s82, s83, s84, s85, s86, s87, s88, s89, s90, s91, s92, s93, s94, s95, s96, s97, s98, s99, s100] [] w = some r :=
  loopN_of (B := s10B1) (R := s10R1) (n := 101) (live := [0, 2, 6, 7, 8, 12]) (fun xs w g y hl h => match xs, hl, h with | [x0, x2, x6, x7, x8, x12], _, h => (s10B1eq x0 x2 x6 x7 x8 x12 w g []).trans (show s10B1raw g [] [x0, x2, x6, x7, x8, x12] w = some y from (Ev.bind_mono fun (v349 : Value) => (Ev.bind_mono fun (v350 : Value) => (Ev.bind_mono fun (v351 : Value) => (Ev.bind_mono fun (v352 : Value) => (condK_mono (Ev.bind_mono fun (v353 : Value) => (Ev.bind_mono fun (v354 : Value) => (Ev.bind_mono fun (v355 : Value) => (Ev.bind_mono fun (v356 : Value) => (Ev.bind_mono fun (v357 : Value) => (Ev.bind_mono fun (v358 : Value) => (Ev.bind_mono fun (r359 : Value × World) => (Ev.bind_mono fun (v360 : Value) => (Ev.bind_mono fun (v361 : Value) => (chkK_mono (condK_mono (Ev.bind_mono fun (v362 : Value) => (Ev.bind_mono fun (v363 : Value) => (Ev.bind_mono fun (v364 : Value) => (Ev.bind_mono fun (v365 : Value) => (Ev.bind_mono fun (r366 : Value × World) => (s10J2of)))))) (s10J2of)))))))))))) id))))) h)) (by kernel_rfl) (s10R1of) (fun i => ([s0, s1, s2, s3, s4, s5, s6, s7, s8, s9, s10, s11, s12, s13, s14, s15, s16, s17, s18, s19, s20, s21, s22, s23, s24, s25, s26, s27, s28, s29, s30, s31, s32, s33, s34, s35, s36, s37, s38, s39, s40, s41, s42, s43, s44, s45, s46, s47, s48, s49, s50, s51, s52, s53, s54, s55, s56, s57, s58, s59, s60, s61, s62, s63, s64, s65, s66, s67, s68, s69, s70, s71, s72, s73, s74, s75, s76, s77, s78, s79, s80, s81, s82, s83, s84, s85, s86, s87, s88, s89, s90, s91, s92, s93, s94, s95, s96, s97, s98, s99, s100] : List Value).getD i undef) (by kernel_rfl) rfl h
theorem s10B0eq (x0 x1 x2 x6 x7 x8 x10 x11 : Value) (w : World) (g : Nat → Value) (d : List Deferred) : evK Try.prog 10 none (nav [1, 1, 1, 1, 0, 1, 0, 0] (bodyOf Try.f10)) none _ (frm 101 (setL [0, 1, 2, 6, 7, 8, 10, 11] [x0, x1, x2, x6, x7, x8, x10, x11] g) d) w (projK [0, 1, 2, 6, 7, 8, 10, 11]) = s10B0 [x0, x1, x2, x6, x7, x8, x10, x11] w := by kernel_rfl
theorem s10R0x0eq (x0 x1 x2 x6 x7 x8 x10 x11 : Value) (g : Nat → Value) (w : World) : s10K1 (Exit.exit 0) (frm 101 (setL [0, 1, 2, 6, 7, 8, 10, 11] [x0, x1, x2, x6, x7, x8, x10, x11] g) []) w = s10R0x0raw x0 x1 x2 x6 x7 x8 x10 x11 g w := by kernel_rfl
theorem s10R0of : ∀ (e : Exit) (xs : List Value) (w : World) (g : Nat → Value) (y : _), s10R0 e xs w = some y → s10K1 e (frm 101 (setL [0, 1, 2, 6, 7, 8, 10, 11] xs g) []) w = some y := by
  intro e xs w g y h
  unfold s10R0 at h
  split at h
  · exact (s10R0x0eq _ _ _ _ _ _ _ _ g _).trans ((s10L1of) h)
  · cases h
theorem s10L0of {s0 s1 s2 s3 s4 s5 s6 s7 s8 s9 s10 s11 s12 s13 s14 s15 s16 s17 s18 s19 s20 s21 s22 s23 s24 s25 s26 s27 s28 s29 s30 s31 s32 s33 s34 s35 s36 s37 s38 s39 s40 s41 s42 s43 s44 s45 s46 s47 s48 s49 s50 s51 s52 s53 s54 s55 s56 s57 s58 s59 s60 s61 s62 s63 s64 s65 s66 s67 s68 s69 s70 s71 s72 s73 s74 s75 s76 s77 s78 s79 s80 s81 s82 s83 s84 s85 s86 s87 s88 s89 s90 s91 s92 s93 s94 s95 s96 s97 s98 s99 s100 : Value} {w : World} {r : _} (h : loopR s10B0 s10R0 [s0, s1, s2, s6, s7, s8, s10, s11] w = some r) : s10L0 [s0, s1, s2, s3, s4, s5, s6, s7, s8, s9, s10, s11, s12, s13, s14, s15, s16, s17, s18, s19, s20, s21, s22, s23, s24, s25, s26, s27, s28, s29, s30, s31, s32, s33, s34, s35, s36, s37, s38, s39, s40, s41, s42, s43, s44, s45, s46, s47, s48, s49, s50, s51, s52, s53, s54, s55, s56, s57, s58, s59, s60, s61, s62, s63, s64, s65, s66, s67, s68, s69, s70, s71, s72, s73, s74, s75, s76, s77, s78, s79, s80, s81, s82, s83, s84, s85, s86, s87, s88, s89, s90, s91, s92, s93, s94, s95, s96, s97, s98, s99, s100] [] w = some r :=
  loopN_of (B := s10B0) (R := s10R0) (n := 101) (live := [0, 1, 2, 6, 7, 8, 10, 11]) (fun xs w g y hl h => match xs, hl, h with | [x0, x1, x2, x6, x7, x8, x10, x11], _, h => (s10B0eq x0 x1 x2 x6 x7 x8 x10 x11 w g []).trans h) (by kernel_rfl) (s10R0of) (fun i => ([s0, s1, s2, s3, s4, s5, s6, s7, s8, s9, s10, s11, s12, s13, s14, s15, s16, s17, s18, s19, s20, s21, s22, s23, s24, s25, s26, s27, s28, s29, s30, s31, s32, s33, s34, s35, s36, s37, s38, s39, s40, s41, s42, s43, s44, s45, s46, s47, s48, s49, s50, s51, s52, s53, s54, s55, s56, s57, s58, s59, s60, s61, s62, s63, s64, s65, s66, s67, s68, s69, s70, s71, s72, s73, s74, s75, s76, s77, s78, s79, s80, s81, s82, s83, s84, s85, s86, s87, s88, s89, s90, s91, s92, s93, s94, s95, s96, s97, s98, s99, s100] : List Value).getD i undef) (by kernel_rfl) rfl h
theorem s10eq (x0 x1 x2 : Value) (w : World) : evK Try.prog 10 none (bodyOf Try.f10) none _ { tmps := (([x0, x1, x2] : List Value) ++ List.replicate (101 - 3) undef).toArray, defers := [] } w (leaveK Try.prog Try.f10) = s10raw x0 x1 x2 w := by kernel_rfl
theorem c10 {x0 x1 x2 : Value} {w : World} {r : Value × World} (h : s10 x0 x1 x2 w = some r) : C Try.prog 10 #[x0, x1, x2] w = some r :=
  C_ev follows_all drawLaw (by kernel_rfl) Try.func10 (by rfl) ((s10eq x0 x1 x2 w).trans (show s10raw x0 x1 x2 w = some r from (Ev.bind_mono fun (r325 : Value × World) => (Ev.bind_mono fun (v326 : Value) => (Ev.bind_mono fun (v327 : Value) => (Ev.bind_mono fun (v328 : Value) => (Ev.bind_mono fun (r329 : Value × World) => (Ev.bind_mono fun (v330 : Value) => (Ev.bind_mono fun (v331 : Value) => (Ev.bind_mono fun (v332 : Value) => (condK_mono id (Ev.bind_mono fun (r333 : Value × World) => (s10L0of))))))))))) h))
theorem e10 {x0 x1 x2 : Value} {w : World} {Q : Value × World → Prop} (h : Brings (s10 x0 x1 x2 w) Q) : Brings (Xcall Try.prog (Value.func (Fn.func 10) #[] #[]) #[x0, x1, x2] w) Q :=
  h.call (Xcall_fn Try.func10 (by decide +kernel) (by rfl) _ _ _ w) fun _ h => c10 h

/-! lychgate/lychgatetop.TopStreams -/
noncomputable def s11K0 : Exit → Act → World → Option (Value × World) := seqK (fun a w => evK Try.prog 11 none (nav [1, 1] (bodyOf Try.f11)) none _ a w (leaveK Try.prog Try.f11)) (leaveK Try.prog Try.f11)
noncomputable def s11J0 (s : List Value) (d : List Deferred) (w : World) : Option (Value × World) := s11K0 .normal ⟨s.toArray, d⟩ w
noncomputable def s11K1 : Exit → Act → World → Option (Value × World) := seqK (fun a w => evK Try.prog 11 none (nav [1, 1, 1, 1, 1, 1, 1] (bodyOf Try.f11)) none _ a w (leaveK Try.prog Try.f11)) (leaveK Try.prog Try.f11)
noncomputable def s11J1 (s : List Value) (d : List Deferred) (w : World) : Option (Value × World) := s11K1 .normal ⟨s.toArray, d⟩ w
noncomputable def s11K2 : Exit → Act → World → Option (Value × World) := seqK (fun a w => evK Try.prog 11 none (nav [1, 1, 1, 1, 1, 1, 1, 1, 1, 1, 1, 1] (bodyOf Try.f11)) none _ a w (leaveK Try.prog Try.f11)) (leaveK Try.prog Try.f11)
noncomputable def s11K3 : Exit → Act → World → Option (Value × World) := blockK 0 s11K2
noncomputable def s11L2 (s : List Value) (d : List Deferred) (w : World) : Option (Value × World) := loopN Try.prog 11 none (nav [1, 1, 1, 1, 1, 1, 1, 1, 1, 1, 1, 0, 1, 0, 0] (bodyOf Try.f11)) s11K3 s d w
noncomputable def s11K4 : Exit → Act → World → Option (Exit × List Value × World) := seqK (fun a w => evK Try.prog 11 none (nav [1, 1, 1, 1, 1, 1, 1, 1, 1, 1, 1, 0, 1, 0, 0, 1, 1] (bodyOf Try.f11)) none _ a w (projK [2, 3, 5, 7, 8, 9, 10, 11, 12, 13])) (projK [2, 3, 5, 7, 8, 9, 10, 11, 12, 13])
noncomputable def s11K5 : Exit → Act → World → Option (Exit × List Value × World) := blockK 1 s11K4
noncomputable def s11K6 : Exit → Act → World → Option (Exit × List Value × World) := seqK (fun a w => evK Try.prog 11 none (nav [1, 1, 1, 1, 1, 1, 1, 1, 1, 1, 1, 0, 1, 0, 0, 1, 0, 0, 1, 1, 1] (bodyOf Try.f11)) none _ a w s11K5) s11K5
noncomputable def s11J3 (s : List Value) (d : List Deferred) (w : World) : Option (Exit × List Value × World) := s11K6 .normal ⟨s.toArray, d⟩ w
noncomputable def s11K7 : Exit → Act → World → Option (Exit × List Value × World) := seqK (fun a w => evK Try.prog 11 none (nav [1, 1, 1, 1, 1, 1, 1, 1, 1, 1, 1, 0, 1, 0, 0, 1, 0, 0, 1, 1, 1, 1, 1] (bodyOf Try.f11)) none _ a w s11K5) s11K5
noncomputable def s11K8 : Exit → Act → World → Option (Exit × List Value × World) := blockK 2 s11K7
noncomputable def s11L4 (s : List Value) (d : List Deferred) (w : World) : Option (Exit × List Value × World) := loopN Try.prog 11 none (nav [1, 1, 1, 1, 1, 1, 1, 1, 1, 1, 1, 0, 1, 0, 0, 1, 0, 0, 1, 1, 1, 1, 0, 1, 0, 0] (bodyOf Try.f11)) s11K8 s d w
noncomputable def s11B4 : List Value → World → Option (Exit × List Value × World)
  | [x2, x3, x5, x7, x8, x9, x10, x11, x12, x13, x14, x15, x16], w =>
    (Qlen Try.prog #[34] 3 #[x14] w).bind fun v443 =>
    (Qbin Try.prog Go.BinOp.lss 3 x16 v443).bind fun v444 =>
    condK v444 (
      (Qbin Try.prog Go.BinOp.add 3 x15 x16).bind fun v445 =>
      (Qbin Try.prog Go.BinOp.lss 3 v445 (Go.Value.int Go.IntKind.i64 0)).bind fun v446 =>
      (guardQ v446 false (Qbin Try.prog Go.BinOp.add 3 (gv (isB v446 false) x15) (gv (isB v446 false) x16))).bind fun v447 =>
      (guardQ v446 false (Qlen Try.prog #[34] 3 #[(gv (isB v446 false) x11)] w)).bind fun v448 =>
      (guardQ v446 false (Qbin Try.prog Go.BinOp.geq 3 v447 v448)).bind fun v449 =>
      (Qpick v446 (Go.Value.bool true) v449).bind fun v450 =>
      (guardQ v450 false (Qbin Try.prog Go.BinOp.add 3 (gv (isB v450 false) x15) (gv (isB v450 false) x16))).bind fun v451 =>
      (guardQ v450 false (QindexAddr Try.prog 56 (gv (isB v450 false) x12) v451 w)).bind fun v452 =>
      (guardQ v450 false (Qload Try.prog 4 v452 w)).bind fun v453 =>
      (Qpick v450 (Go.Value.bool true) v453).bind fun v454 =>
      condK v454 (
        some (Exit.ret, [(Go.Value.bool false), x3, x5, x7, x8, x9, x10, x11, x12, x13, x14, x15, x16], w)
      ) (
        (Qbin Try.prog Go.BinOp.add 3 x15 x16).bind fun v455 =>
        (QindexAddr Try.prog 34 x14 x16 w).bind fun v456 =>
        (Qload Try.prog 5 v456 w).bind fun v457 =>
        (QindexAddr Try.prog 34 x11 v455 w).bind fun v458 =>
        (Xstore Try.prog 5 v458 v457 w).bind fun r459 =>
        (Qbin Try.prog Go.BinOp.add 3 x15 x16).bind fun v460 =>
        (QindexAddr Try.prog 56 x12 v460 r459.2).bind fun v461 =>
        (Xstore Try.prog 4 v461 (Go.Value.bool true) r459.2).bind fun r462 =>
        (Qbin Try.prog Go.BinOp.add 3 x16 (Go.Value.int Go.IntKind.i64 1)).bind fun v463 =>
        some (Exit.normal, [x2, x3, x5, x7, x8, x9, x10, x11, x12, x13, x14, x15, v463], r462.2)
      )
    ) (
      some ((Exit.exit 2), [x2, x3, x5, x7, x8, x9, x10, x11, x12, x13, x14, x15, x16], w)
    )
  | _, _ => none
noncomputable def s11R4 : Exit → List Value → World → Option (Exit × List Value × World)
  | (Exit.exit 2), [x2, x3, x5, x7, x8, x9, x10, x11, x12, x13, _, _, _], w =>
    (Qconv Try.prog 3 23 x13).bind fun v464 =>
    (Qbin Try.prog Go.BinOp.add 23 x5 v464).bind fun v465 =>
    (Xcall Try.prog (Value.func (Fn.func 17) #[] #[]) #[x7, v465] w).bind fun r466 =>
    (Xcall Try.prog (Value.func (Fn.func 16) #[] #[]) #[x7, r466.1] r466.2).bind fun r467 =>
    (Qconv Try.prog 3 23 x13).bind fun v468 =>
    (Qbin Try.prog Go.BinOp.add 23 x5 v468).bind fun v469 =>
    (Qbin Try.prog Go.BinOp.neq 23 r467.1 v469).bind fun v470 =>
    condK v470 (
      some (Exit.ret, [(Go.Value.bool false), x3, x5, x7, x8, x9, x10, x11, x12, x13], r467.2)
    ) (
      (Qbin Try.prog Go.BinOp.add 3 x13 (Go.Value.int Go.IntKind.i64 1)).bind fun v471 =>
      some (Exit.normal, [x2, x3, x5, x7, x8, x9, x10, x11, x12, v471], r467.2)
    )
  | Exit.ret, [x2, x3, x5, x7, x8, x9, x10, x11, x12, x13, _, _, _], w =>
    some (Exit.ret, [x2, x3, x5, x7, x8, x9, x10, x11, x12, x13], w)
  | _, _, _ => none
noncomputable def s11M3raw (s0 s1 s2 s3 s4 s5 s6 s7 s8 s9 s10 s11 s12 s13 s14 _s15 _s16 s17 s18 s19 s20 s21 s22 s23 s24 s25 s26 s27 s28 s29 s30 s31 s32 s33 s34 s35 s36 s37 s38 s39 s40 s41 s42 s43 s44 s45 s46 s47 s48 s49 s50 s51 s52 s53 s54 s55 s56 s57 s58 s59 s60 s61 s62 s63 s64 s65 s66 s67 s68 s69 s70 s71 s72 s73 s74 s75 s76 s77 s78 s79 s80 s81 s82 s83 s84 s85 s86 s87 s88 s89 s90 s91 s92 s93 s94 s95 s96 s97 s98 s99 s100 s101 s102 s103 s104 s105 s106 s107 s108 s109 s110 s111 s112 s113 s114 s115 s116 s117 s118 s119 s120 _s121 _s122 _s123 _s124 _s125 _s126 _s127 _s128 _s129 s130 s131 s132 s133 s134 s135 s136 s137 s138 s139 s140 s141 s142 s143 s144 s145 s146 s147 s148 s149 s150 s151 s152 s153 s154 s155 s156 s157 s158 s159 s160 s161 s162 s163 s164 s165 s166 s167 s168 s169 s170 s171 s172 s173 s174 s175 s176 s177 s178 s179 s180 s181 s182 s183 s184 s185 s186 s187 s188 s189 s190 s191 s192 s193 s194 s195 s196 s197 s198 s199 s200 s201 s202 : Value) (w : World) : Option (Exit × List Value × World) :=
  (Qconv Try.prog 3 23 s13).bind fun v438 =>
  (Qbin Try.prog Go.BinOp.add 23 s5 v438).bind fun v439 =>
  (Xcall Try.prog (Value.func (Fn.func 17) #[] #[]) #[s7, v439] w).bind fun r440 =>
  (Qbin Try.prog Go.BinOp.sub 23 r440.1 s5).bind fun v441 =>
  (Qconv Try.prog 23 3 v441).bind fun v442 =>
  s11L4 [s0, s1, s2, s3, s4, s5, s6, s7, s8, s9, s10, s11, s12, s13, s14, v442, (Go.Value.int Go.IntKind.i64 0), s17, s18, s19, s20, s21, s22, s23, s24, s25, s26, s27, s28, s29, s30, s31, s32, s33, s34, s35, s36, s37, s38, s39, s40, s41, s42, s43, s44, s45, s46, s47, s48, s49, s50, s51, s52, s53, s54, s55, s56, s57, s58, s59, s60, s61, s62, s63, s64, s65, s66, s67, s68, s69, s70, s71, s72, s73, s74, s75, s76, s77, s78, s79, s80, s81, s82, s83, s84, s85, s86, s87, s88, s89, s90, s91, s92, s93, s94, s95, s96, s97, s98, s99, s100, s101, s102, s103, s104, s105, s106, s107, s108, s109, s110, s111, s112, s113, s114, s115, s116, s117, s118, s119, s120, s7, s5, s13, v438, v439, r440.1, s5, v441, v442, s130, s131, s132, s133, s134, s135, s136, s137, s138, s139, s140, s141, s142, s143, s144, s145, s146, s147, s148, s149, s150, s151, s152, s153, s154, s155, s156, s157, s158, s159, s160, s161, s162, s163, s164, s165, s166, s167, s168, s169, s170, s171, s172, s173, s174, s175, s176, s177, s178, s179, s180, s181, s182, s183, s184, s185, s186, s187, s188, s189, s190, s191, s192, s193, s194, s195, s196, s197, s198, s199, s200, s201, s202] [] r440.2
noncomputable def s11M3 (s2 s3 s5 s7 s8 s9 s10 s11 s12 s13 s14 : Value) (w : World) : Option (Exit × List Value × World) :=
  (Qconv Try.prog 3 23 s13).bind fun v438 =>
  (Qbin Try.prog Go.BinOp.add 23 s5 v438).bind fun v439 =>
  (Xcall Try.prog (Value.func (Fn.func 17) #[] #[]) #[s7, v439] w).bind fun r440 =>
  (Qbin Try.prog Go.BinOp.sub 23 r440.1 s5).bind fun v441 =>
  (Qconv Try.prog 23 3 v441).bind fun v442 =>
  loopR s11B4 s11R4 [s2, s3, s5, s7, s8, s9, s10, s11, s12, s13, s14, v442, (Go.Value.int Go.IntKind.i64 0)] r440.2
noncomputable def s11B2raw (g : Nat → Value) (d : List Deferred) : List Value → World → Option (Exit × List Value × World)
  | [x2, x3, x5, x7, x8, x9, x10, x11, x12, x13], w =>
    (Qlen Try.prog #[34] 3 #[x3] w).bind fun v411 =>
    (Qbin Try.prog Go.BinOp.lss 3 x13 v411).bind fun v412 =>
    condK v412 (
      (Qbin Try.prog Go.BinOp.gtr 3 x13 x8).bind fun v413 =>
      (guardQ v413 true (Qbin Try.prog Go.BinOp.add 3 (gv (isB v413 true) x8) (gv (isB v413 true) x9))).bind fun v414 =>
      (guardQ v413 true (Qbin Try.prog Go.BinOp.lss 3 (gv (isB v413 true) x13) v414)).bind fun v415 =>
      (Qpick v413 v415 (Go.Value.bool false)).bind fun v416 =>
      condK v416 (
        (Qbin Try.prog Go.BinOp.add 3 x13 (Go.Value.int Go.IntKind.i64 1)).bind fun v417 =>
        some (Exit.normal, [x2, x3, x5, x7, x8, x9, x10, x11, x12, v417], w)
      ) (
        (Qbin Try.prog Go.BinOp.add 3 x13 (Go.Value.int Go.IntKind.i64 1)).bind fun v418 =>
        (Qslice Try.prog 34 x3 (some x13) (some v418) none w).bind fun v419 =>
        (Qbin Try.prog Go.BinOp.eql 3 x13 x8).bind fun v420 =>
        condK v420 (
          (Qconv Try.prog 3 23 x8).bind fun v421 =>
          (Qbin Try.prog Go.BinOp.add 23 x5 v421).bind fun v422 =>
          (Xcall Try.prog (Value.func (Fn.func 23) #[] #[]) #[x7, v422, x9] w).bind fun r423 =>
          (Qext r423.1 0).bind fun v424 =>
          (Qext r423.1 1).bind fun v425 =>
          s11J3 [(g 0), (g 1), x2, x3, (g 4), x5, (g 6), x7, x8, x9, x10, x11, x12, x13, v424, (g 15), (g 16), (g 17), (g 18), (g 19), (g 20), (g 21), (g 22), (g 23), (g 24), (g 25), (g 26), (g 27), (g 28), (g 29), (g 30), (g 31), (g 32), (g 33), (g 34), (g 35), (g 36), (g 37), (g 38), (g 39), (g 40), (g 41), (g 42), (g 43), (g 44), (g 45), (g 46), (g 47), (g 48), (g 49), (g 50), (g 51), (g 52), (g 53), (g 54), (g 55), (g 56), (g 57), (g 58), (g 59), (g 60), (g 61), (g 62), (g 63), (g 64), (g 65), (g 66), (g 67), (g 68), (g 69), (g 70), (g 71), (g 72), (g 73), (g 74), (g 75), (g 76), (g 77), (g 78), (g 79), (g 80), (g 81), (g 82), (g 83), (g 84), (g 85), (g 86), x13, x3, v411, v412, (g 91), (g 92), x13, x8, v413, v413, (gv (isB v413 true) x13), (gv (isB v413 true) x8), (gv (isB v413 true) x9), v414, v415, v416, x3, x13, x13, v418, v419, x13, x8, v420, r423.1, x7, x5, x8, v421, v422, x9, r423.1, v424, v425, (g 121), (g 122), (g 123), (g 124), (g 125), (g 126), (g 127), (g 128), (g 129), (g 130), (g 131), (g 132), (g 133), (g 134), (g 135), (g 136), (g 137), (g 138), (g 139), (g 140), (g 141), (g 142), (g 143), (g 144), (g 145), (g 146), (g 147), (g 148), (g 149), (g 150), (g 151), (g 152), (g 153), (g 154), (g 155), (g 156), (g 157), (g 158), (g 159), (g 160), (g 161), (g 162), (g 163), (g 164), (g 165), (g 166), (g 167), (g 168), (g 169), (g 170), (g 171), (g 172), (g 173), (g 174), (g 175), (g 176), (g 177), (g 178), (g 179), (g 180), (g 181), (g 182), (g 183), (g 184), (g 185), (g 186), (g 187), (g 188), (g 189), (g 190), (g 191), (g 192), (g 193), (g 194), (g 195), (g 196), (g 197), (g 198), (g 199), (g 200), (g 201), (g 202)] d r423.2
        ) (
          s11J3 [(g 0), (g 1), x2, x3, (g 4), x5, (g 6), x7, x8, x9, x10, x11, x12, x13, v419, (g 15), (g 16), (g 17), (g 18), (g 19), (g 20), (g 21), (g 22), (g 23), (g 24), (g 25), (g 26), (g 27), (g 28), (g 29), (g 30), (g 31), (g 32), (g 33), (g 34), (g 35), (g 36), (g 37), (g 38), (g 39), (g 40), (g 41), (g 42), (g 43), (g 44), (g 45), (g 46), (g 47), (g 48), (g 49), (g 50), (g 51), (g 52), (g 53), (g 54), (g 55), (g 56), (g 57), (g 58), (g 59), (g 60), (g 61), (g 62), (g 63), (g 64), (g 65), (g 66), (g 67), (g 68), (g 69), (g 70), (g 71), (g 72), (g 73), (g 74), (g 75), (g 76), (g 77), (g 78), (g 79), (g 80), (g 81), (g 82), (g 83), (g 84), (g 85), (g 86), x13, x3, v411, v412, (g 91), (g 92), x13, x8, v413, v413, (gv (isB v413 true) x13), (gv (isB v413 true) x8), (gv (isB v413 true) x9), v414, v415, v416, x3, x13, x13, v418, v419, x13, x8, v420, (g 111), (g 112), (g 113), (g 114), (g 115), (g 116), (g 117), (g 118), (g 119), (g 120), (g 121), (g 122), (g 123), (g 124), (g 125), (g 126), (g 127), (g 128), (g 129), (g 130), (g 131), (g 132), (g 133), (g 134), (g 135), (g 136), (g 137), (g 138), (g 139), (g 140), (g 141), (g 142), (g 143), (g 144), (g 145), (g 146), (g 147), (g 148), (g 149), (g 150), (g 151), (g 152), (g 153), (g 154), (g 155), (g 156), (g 157), (g 158), (g 159), (g 160), (g 161), (g 162), (g 163), (g 164), (g 165), (g 166), (g 167), (g 168), (g 169), (g 170), (g 171), (g 172), (g 173), (g 174), (g 175), (g 176), (g 177), (g 178), (g 179), (g 180), (g 181), (g 182), (g 183), (g 184), (g 185), (g 186), (g 187), (g 188), (g 189), (g 190), (g 191), (g 192), (g 193), (g 194), (g 195), (g 196), (g 197), (g 198), (g 199), (g 200), (g 201), (g 202)] d w
        )
      )
    ) (
      some ((Exit.exit 0), [x2, x3, x5, x7, x8, x9, x10, x11, x12, x13], w)
    )
  | _, _ => none
noncomputable def s11B2 : List Value → World → Option (Exit × List Value × World)
  | [x2, x3, x5, x7, x8, x9, x10, x11, x12, x13], w =>
    (Qlen Try.prog #[34] 3 #[x3] w).bind fun v411 =>
    (Qbin Try.prog Go.BinOp.lss 3 x13 v411).bind fun v412 =>
    condK v412 (
      (Qbin Try.prog Go.BinOp.gtr 3 x13 x8).bind fun v413 =>
      (guardQ v413 true (Qbin Try.prog Go.BinOp.add 3 (gv (isB v413 true) x8) (gv (isB v413 true) x9))).bind fun v414 =>
      (guardQ v413 true (Qbin Try.prog Go.BinOp.lss 3 (gv (isB v413 true) x13) v414)).bind fun v415 =>
      (Qpick v413 v415 (Go.Value.bool false)).bind fun v416 =>
      condK v416 (
        (Qbin Try.prog Go.BinOp.add 3 x13 (Go.Value.int Go.IntKind.i64 1)).bind fun v417 =>
        some (Exit.normal, [x2, x3, x5, x7, x8, x9, x10, x11, x12, v417], w)
      ) (
        (Qbin Try.prog Go.BinOp.add 3 x13 (Go.Value.int Go.IntKind.i64 1)).bind fun v418 =>
        (Qslice Try.prog 34 x3 (some x13) (some v418) none w).bind fun v419 =>
        (Qbin Try.prog Go.BinOp.eql 3 x13 x8).bind fun v420 =>
        condK v420 (
          (Qconv Try.prog 3 23 x8).bind fun v421 =>
          (Qbin Try.prog Go.BinOp.add 23 x5 v421).bind fun v422 =>
          (Xcall Try.prog (Value.func (Fn.func 23) #[] #[]) #[x7, v422, x9] w).bind fun r423 =>
          (Qext r423.1 0).bind fun v424 =>
          (Qext r423.1 1).bind fun _ =>
          s11M3 x2 x3 x5 x7 x8 x9 x10 x11 x12 x13 v424 r423.2
        ) (
          s11M3 x2 x3 x5 x7 x8 x9 x10 x11 x12 x13 v419 w
        )
      )
    ) (
      some ((Exit.exit 0), [x2, x3, x5, x7, x8, x9, x10, x11, x12, x13], w)
    )
  | _, _ => none
noncomputable def s11R2 : Exit → List Value → World → Option (Value × World)
  | (Exit.exit 0), [_, x3, x5, x7, _, _, x10, x11, _, _], w =>
    (Xconv Try.prog 34 9 x11 w).bind fun r426 =>
    (Xconv Try.prog 34 9 x10 r426.2).bind fun r427 =>
    (Qbin Try.prog Go.BinOp.eql 9 r426.1 r427.1).bind fun v428 =>
    (guardQ v428 true (Qlen Try.prog #[34] 3 #[(gv (isB v428 true) x10)] r427.2)).bind fun v429 =>
    (guardQ v428 true (Qconv Try.prog 3 23 v429)).bind fun v430 =>
    (guardQ v428 true (Qbin Try.prog Go.BinOp.add 23 (gv (isB v428 true) x5) v430)).bind fun v431 =>
    (guardX v428 true r427.2 (Xcall Try.prog (Value.func (Fn.func 16) #[] #[]) #[(gv (isB v428 true) x7), v431] r427.2)).bind fun r432 =>
    (guardQ v428 true (Qlen Try.prog #[34] 3 #[(gv (isB v428 true) x3)] r432.2)).bind fun v433 =>
    (guardQ v428 true (Qconv Try.prog 3 23 v433)).bind fun v434 =>
    (guardQ v428 true (Qbin Try.prog Go.BinOp.add 23 (gv (isB v428 true) x5) v434)).bind fun v435 =>
    (guardQ v428 true (Qbin Try.prog Go.BinOp.eql 23 r432.1 v435)).bind fun v436 =>
    (Qpick v428 v436 (Go.Value.bool false)).bind fun v437 =>
    some (v437, r432.2)
  | Exit.ret, [x2, _, _, _, _, _, _, _, _, _], w =>
    some (x2, w)
  | _, _, _ => none
noncomputable def s11M1raw (s0 s1 s2 s3 s4 s5 s6 s7 s8 s9 _s10 _s11 _s12 _s13 s14 s15 s16 s17 s18 s19 s20 s21 s22 s23 s24 s25 s26 s27 s28 s29 s30 s31 s32 s33 s34 s35 s36 s37 s38 s39 s40 s41 s42 s43 s44 s45 s46 s47 s48 s49 s50 s51 s52 s53 s54 s55 s56 s57 s58 s59 s60 s61 s62 s63 s64 s65 s66 _s67 _s68 _s69 _s70 _s71 _s72 _s73 _s74 _s75 _s76 _s77 _s78 _s79 _s80 _s81 _s82 _s83 _s84 _s85 _s86 s87 s88 s89 s90 s91 s92 s93 s94 s95 s96 s97 s98 s99 s100 s101 s102 s103 s104 s105 s106 s107 s108 s109 s110 s111 s112 s113 s114 s115 s116 s117 s118 s119 s120 s121 s122 s123 s124 s125 s126 s127 s128 s129 s130 s131 s132 s133 s134 s135 s136 s137 s138 s139 s140 s141 s142 s143 s144 s145 s146 s147 s148 s149 s150 s151 s152 s153 s154 s155 s156 s157 s158 s159 s160 s161 s162 s163 s164 s165 s166 s167 s168 s169 s170 s171 s172 s173 s174 s175 s176 s177 s178 s179 s180 s181 s182 s183 s184 s185 s186 s187 s188 s189 s190 s191 s192 s193 s194 s195 s196 s197 s198 s199 s200 s201 s202 : Value) (w : World) : Option (Value × World) :=
  (Qconv Try.prog 3 23 s8).bind fun v402 =>
  (Qbin Try.prog Go.BinOp.add 23 s5 v402).bind fun v403 =>
  (Xcall Try.prog (Value.func (Fn.func 20) #[] #[]) #[s7, v403, s9, s4] w).bind fun r404 =>
  (Qbin Try.prog Go.BinOp.neq 37 r404.1 (Go.Value.int Go.IntKind.i64 0)).bind fun v405 =>
  condK v405 (
    some ((Go.Value.bool false), r404.2)
  ) (
    (Xcall Try.prog (Value.func (Fn.func 26) #[] #[]) #[s3, s8, s9, s4] r404.2).bind fun r406 =>
    (Qlen Try.prog #[34] 3 #[r406.1] r406.2).bind fun v407 =>
    (XmakeSlice Try.prog 34 v407 v407 r406.2).bind fun r408 =>
    (Qlen Try.prog #[34] 3 #[r406.1] r408.2).bind fun v409 =>
    (XmakeSlice Try.prog 56 v409 v409 r408.2).bind fun r410 =>
    s11L2 [s0, s1, s2, s3, s4, s5, s6, s7, s8, s9, r406.1, r408.1, r410.1, (Go.Value.int Go.IntKind.i64 0), s14, s15, s16, s17, s18, s19, s20, s21, s22, s23, s24, s25, s26, s27, s28, s29, s30, s31, s32, s33, s34, s35, s36, s37, s38, s39, s40, s41, s42, s43, s44, s45, s46, s47, s48, s49, s50, s51, s52, s53, s54, s55, s56, s57, s58, s59, s60, s61, s62, s63, s64, s65, s66, s7, s5, s8, v402, v403, s9, s4, r404.1, v405, s3, s8, s9, s4, r406.1, r406.1, v407, r408.1, r406.1, v409, r410.1, s87, s88, s89, s90, s91, s92, s93, s94, s95, s96, s97, s98, s99, s100, s101, s102, s103, s104, s105, s106, s107, s108, s109, s110, s111, s112, s113, s114, s115, s116, s117, s118, s119, s120, s121, s122, s123, s124, s125, s126, s127, s128, s129, s130, s131, s132, s133, s134, s135, s136, s137, s138, s139, s140, s141, s142, s143, s144, s145, s146, s147, s148, s149, s150, s151, s152, s153, s154, s155, s156, s157, s158, s159, s160, s161, s162, s163, s164, s165, s166, s167, s168, s169, s170, s171, s172, s173, s174, s175, s176, s177, s178, s179, s180, s181, s182, s183, s184, s185, s186, s187, s188, s189, s190, s191, s192, s193, s194, s195, s196, s197, s198, s199, s200, s201, s202] [] r410.2
  )
noncomputable def s11M1 (s2 s3 s4 s5 s7 s8 s9 : Value) (w : World) : Option (Value × World) :=
  (Qconv Try.prog 3 23 s8).bind fun v402 =>
  (Qbin Try.prog Go.BinOp.add 23 s5 v402).bind fun v403 =>
  (Xcall Try.prog (Value.func (Fn.func 20) #[] #[]) #[s7, v403, s9, s4] w).bind fun r404 =>
  (Qbin Try.prog Go.BinOp.neq 37 r404.1 (Go.Value.int Go.IntKind.i64 0)).bind fun v405 =>
  condK v405 (
    some ((Go.Value.bool false), r404.2)
  ) (
    (Xcall Try.prog (Value.func (Fn.func 26) #[] #[]) #[s3, s8, s9, s4] r404.2).bind fun r406 =>
    (Qlen Try.prog #[34] 3 #[r406.1] r406.2).bind fun v407 =>
    (XmakeSlice Try.prog 34 v407 v407 r406.2).bind fun r408 =>
    (Qlen Try.prog #[34] 3 #[r406.1] r408.2).bind fun v409 =>
    (XmakeSlice Try.prog 56 v409 v409 r408.2).bind fun r410 =>
    loopR s11B2 s11R2 [s2, s3, s5, s7, s8, s9, r406.1, r408.1, r410.1, (Go.Value.int Go.IntKind.i64 0)] r410.2
  )
noncomputable def s11M0raw (s0 s1 s2 s3 s4 s5 s6 _s7 _s8 _s9 s10 s11 s12 s13 s14 s15 s16 s17 s18 s19 s20 s21 s22 s23 s24 s25 s26 _s27 _s28 _s29 _s30 _s31 _s32 _s33 _s34 _s35 s36 s37 s38 s39 s40 s41 s42 s43 s44 s45 s46 s47 _s48 _s49 _s50 _s51 _s52 _s53 _s54 _s55 _s56 _s57 _s58 _s59 _s60 _s61 _s62 _s63 _s64 _s65 _s66 s67 s68 s69 s70 s71 s72 s73 s74 s75 s76 s77 s78 s79 s80 s81 s82 s83 s84 s85 s86 s87 s88 s89 s90 s91 s92 s93 s94 s95 s96 s97 s98 s99 s100 s101 s102 s103 s104 s105 s106 s107 s108 s109 s110 s111 s112 s113 s114 s115 s116 s117 s118 s119 s120 s121 s122 s123 s124 s125 s126 s127 s128 s129 s130 s131 s132 s133 s134 s135 s136 s137 s138 s139 s140 s141 s142 s143 s144 s145 s146 s147 s148 s149 s150 s151 s152 s153 s154 s155 s156 s157 s158 s159 s160 s161 s162 s163 s164 s165 s166 s167 s168 s169 s170 s171 s172 s173 s174 s175 s176 s177 s178 s179 s180 s181 s182 s183 s184 s185 s186 s187 s188 s189 s190 s191 s192 s193 s194 s195 s196 s197 s198 s199 s200 s201 s202 : Value) (w : World) : Option (Value × World) :=
  (Xcall Try.prog (Value.func (Fn.func 19) #[] #[]) #[] w).bind fun r375 =>
  (Qlen Try.prog #[34] 3 #[s3] r375.2).bind fun v376 =>
  (Qbin Try.prog Go.BinOp.lss 3 v376 (Go.Value.int Go.IntKind.i64 2)).bind fun v377 =>
  (guardQ v377 false (Qlen Try.prog #[34] 3 #[(gv (isB v377 false) s4)] r375.2)).bind fun v378 =>
  (guardQ v377 false (Qbin Try.prog Go.BinOp.eql 3 v378 (Go.Value.int Go.IntKind.i64 0))).bind fun v379 =>
  (Qpick v377 (Go.Value.bool true) v379).bind fun v380 =>
  condK v380 (
    (Xcall Try.prog (Value.func (Fn.func 17) #[] #[]) #[r375.1, s5] r375.2).bind fun r381 =>
    (Qbin Try.prog Go.BinOp.eql 23 r381.1 s5).bind fun v382 =>
    (guardX v382 true r381.2 (XbuildSlice Try.prog 34 1 #[(0, (Go.Value.int Go.IntKind.u8 1))] r381.2)).bind fun r383 =>
    (guardX v382 true r383.2 (Xcall Try.prog (Value.func (Fn.func 20) #[] #[]) #[(gv (isB v382 true) r375.1), (gv (isB v382 true) s5), (Go.Value.int Go.IntKind.i64 1), r383.1] r383.2)).bind fun r384 =>
    (guardQ v382 true (Qbin Try.prog Go.BinOp.eql 37 r384.1 (Go.Value.int Go.IntKind.i64 0))).bind fun v385 =>
    (Qpick v382 v385 (Go.Value.bool false)).bind fun v386 =>
    some (v386, r384.2)
  ) (
    (QindexAddr Try.prog 51 s6 (Go.Value.int Go.IntKind.i64 0) r375.2).bind fun v387 =>
    (Qload Try.prog 5 v387 r375.2).bind fun v388 =>
    (Qconv Try.prog 5 3 v388).bind fun v389 =>
    (Qlen Try.prog #[34] 3 #[s3] r375.2).bind fun v390 =>
    (Qbin Try.prog Go.BinOp.sub 3 v390 (Go.Value.int Go.IntKind.i64 1)).bind fun v391 =>
    (Qbin Try.prog Go.BinOp.rem 3 v389 v391).bind fun v392 =>
    (QindexAddr Try.prog 51 s6 (Go.Value.int Go.IntKind.i64 1) r375.2).bind fun v393 =>
    (Qload Try.prog 5 v393 r375.2).bind fun v394 =>
    (Qconv Try.prog 5 3 v394).bind fun v395 =>
    (Qlen Try.prog #[34] 3 #[s3] r375.2).bind fun v396 =>
    (Qbin Try.prog Go.BinOp.sub 3 v396 v392).bind fun v397 =>
    (Qbin Try.prog Go.BinOp.sub 3 v397 (Go.Value.int Go.IntKind.i64 1)).bind fun v398 =>
    (Qbin Try.prog Go.BinOp.rem 3 v395 v398).bind fun v399 =>
    (Qbin Try.prog Go.BinOp.add 3 v399 (Go.Value.int Go.IntKind.i64 1)).bind fun v400 =>
    (Qbin Try.prog Go.BinOp.gtr 3 v400 (Go.Value.int Go.IntKind.i64 128)).bind fun v401 =>
    condK v401 (
      s11J1 [s0, s1, s2, s3, s4, s5, s6, r375.1, v392, (Go.Value.int Go.IntKind.i64 128), s10, s11, s12, s13, s14, s15, s16, s17, s18, s19, s20, s21, s22, s23, s24, s25, s26, r375.1, s3, v376, v377, v377, (gv (isB v377 false) s4), v378, v379, v380, s36, s37, s38, s39, s40, s41, s42, s43, s44, s45, s46, s47, v387, v388, v389, s3, v390, v391, v392, v393, v394, v395, s3, v396, v392, v397, v398, v399, v400, v400, v401, s67, s68, s69, s70, s71, s72, s73, s74, s75, s76, s77, s78, s79, s80, s81, s82, s83, s84, s85, s86, s87, s88, s89, s90, s91, s92, s93, s94, s95, s96, s97, s98, s99, s100, s101, s102, s103, s104, s105, s106, s107, s108, s109, s110, s111, s112, s113, s114, s115, s116, s117, s118, s119, s120, s121, s122, s123, s124, s125, s126, s127, s128, s129, s130, s131, s132, s133, s134, s135, s136, s137, s138, s139, s140, s141, s142, s143, s144, s145, s146, s147, s148, s149, s150, s151, s152, s153, s154, s155, s156, s157, s158, s159, s160, s161, s162, s163, s164, s165, s166, s167, s168, s169, s170, s171, s172, s173, s174, s175, s176, s177, s178, s179, s180, s181, s182, s183, s184, s185, s186, s187, s188, s189, s190, s191, s192, s193, s194, s195, s196, s197, s198, s199, s200, s201, s202] [] r375.2
    ) (
      s11J1 [s0, s1, s2, s3, s4, s5, s6, r375.1, v392, v400, s10, s11, s12, s13, s14, s15, s16, s17, s18, s19, s20, s21, s22, s23, s24, s25, s26, r375.1, s3, v376, v377, v377, (gv (isB v377 false) s4), v378, v379, v380, s36, s37, s38, s39, s40, s41, s42, s43, s44, s45, s46, s47, v387, v388, v389, s3, v390, v391, v392, v393, v394, v395, s3, v396, v392, v397, v398, v399, v400, v400, v401, s67, s68, s69, s70, s71, s72, s73, s74, s75, s76, s77, s78, s79, s80, s81, s82, s83, s84, s85, s86, s87, s88, s89, s90, s91, s92, s93, s94, s95, s96, s97, s98, s99, s100, s101, s102, s103, s104, s105, s106, s107, s108, s109, s110, s111, s112, s113, s114, s115, s116, s117, s118, s119, s120, s121, s122, s123, s124, s125, s126, s127, s128, s129, s130, s131, s132, s133, s134, s135, s136, s137, s138, s139, s140, s141, s142, s143, s144, s145, s146, s147, s148, s149, s150, s151, s152, s153, s154, s155, s156, s157, s158, s159, s160, s161, s162, s163, s164, s165, s166, s167, s168, s169, s170, s171, s172, s173, s174, s175, s176, s177, s178, s179, s180, s181, s182, s183, s184, s185, s186, s187, s188, s189, s190, s191, s192, s193, s194, s195, s196, s197, s198, s199, s200, s201, s202] [] r375.2
    )
  )
noncomputable def s11M0 (s2 s3 s4 s5 s6 : Value) (w : World) : Option (Value × World) :=
  (Xcall Try.prog (Value.func (Fn.func 19) #[] #[]) #[] w).bind fun r375 =>
  (Qlen Try.prog #[34] 3 #[s3] r375.2).bind fun v376 =>
  (Qbin Try.prog Go.BinOp.lss 3 v376 (Go.Value.int Go.IntKind.i64 2)).bind fun v377 =>
  (guardQ v377 false (Qlen Try.prog #[34] 3 #[(gv (isB v377 false) s4)] r375.2)).bind fun v378 =>
  (guardQ v377 false (Qbin Try.prog Go.BinOp.eql 3 v378 (Go.Value.int Go.IntKind.i64 0))).bind fun v379 =>
  (Qpick v377 (Go.Value.bool true) v379).bind fun v380 =>
  condK v380 (
    (Xcall Try.prog (Value.func (Fn.func 17) #[] #[]) #[r375.1, s5] r375.2).bind fun r381 =>
    (Qbin Try.prog Go.BinOp.eql 23 r381.1 s5).bind fun v382 =>
    (guardX v382 true r381.2 (XbuildSlice Try.prog 34 1 #[(0, (Go.Value.int Go.IntKind.u8 1))] r381.2)).bind fun r383 =>
    (guardX v382 true r383.2 (Xcall Try.prog (Value.func (Fn.func 20) #[] #[]) #[(gv (isB v382 true) r375.1), (gv (isB v382 true) s5), (Go.Value.int Go.IntKind.i64 1), r383.1] r383.2)).bind fun r384 =>
    (guardQ v382 true (Qbin Try.prog Go.BinOp.eql 37 r384.1 (Go.Value.int Go.IntKind.i64 0))).bind fun v385 =>
    (Qpick v382 v385 (Go.Value.bool false)).bind fun v386 =>
    some (v386, r384.2)
  ) (
    (QindexAddr Try.prog 51 s6 (Go.Value.int Go.IntKind.i64 0) r375.2).bind fun v387 =>
    (Qload Try.prog 5 v387 r375.2).bind fun v388 =>
    (Qconv Try.prog 5 3 v388).bind fun v389 =>
    (Qlen Try.prog #[34] 3 #[s3] r375.2).bind fun v390 =>
    (Qbin Try.prog Go.BinOp.sub 3 v390 (Go.Value.int Go.IntKind.i64 1)).bind fun v391 =>
    (Qbin Try.prog Go.BinOp.rem 3 v389 v391).bind fun v392 =>
    (QindexAddr Try.prog 51 s6 (Go.Value.int Go.IntKind.i64 1) r375.2).bind fun v393 =>
    (Qload Try.prog 5 v393 r375.2).bind fun v394 =>
    (Qconv Try.prog 5 3 v394).bind fun v395 =>
    (Qlen Try.prog #[34] 3 #[s3] r375.2).bind fun v396 =>
    (Qbin Try.prog Go.BinOp.sub 3 v396 v392).bind fun v397 =>
    (Qbin Try.prog Go.BinOp.sub 3 v397 (Go.Value.int Go.IntKind.i64 1)).bind fun v398 =>
    (Qbin Try.prog Go.BinOp.rem 3 v395 v398).bind fun v399 =>
    (Qbin Try.prog Go.BinOp.add 3 v399 (Go.Value.int Go.IntKind.i64 1)).bind fun v400 =>
    (Qbin Try.prog Go.BinOp.gtr 3 v400 (Go.Value.int Go.IntKind.i64 128)).bind fun v401 =>
    condK v401 (
      s11M1 s2 s3 s4 s5 r375.1 v392 (Go.Value.int Go.IntKind.i64 128) r375.2
    ) (
      s11M1 s2 s3 s4 s5 r375.1 v392 v400 r375.2
    )
  )
noncomputable def s11raw (x0 : Value) (w : World) : Option (Value × World) :=
  (Xbox Try.prog 53 x0 w).bind fun r374 =>
  evDraw Try.prog 11 1 (opsOf (nav [1, 0] (bodyOf Try.f11))) ⟨[x0, r374.1, (Go.Value.bool false), undef, undef, undef, undef, undef, undef, undef, undef, undef, undef, undef, undef, undef, undef, undef, undef, undef, undef, undef, undef, undef, undef, undef, undef, undef, undef, undef, undef, undef, undef, undef, undef, undef, undef, undef, undef, undef, undef, undef, undef, undef, undef, undef, undef, undef, undef, undef, undef, undef, undef, undef, undef, undef, undef, undef, undef, undef, undef, undef, undef, undef, undef, undef, undef, undef, undef, undef, undef, undef, undef, undef, undef, undef, undef, undef, undef, undef, undef, undef, undef, undef, undef, undef, undef, undef, undef, undef, undef, undef, undef, undef, undef, undef, undef, undef, undef, undef, undef, undef, undef, undef, undef, undef, undef, undef, undef, undef, undef, undef, undef, undef, undef, undef, undef, undef, undef, undef, undef, undef, undef, undef, undef, undef, undef, undef, undef, undef, undef, undef, undef, undef, undef, undef, undef, undef, undef, undef, undef, undef, undef, undef, undef, undef, undef, undef, undef, undef, undef, undef, undef, undef, undef, undef, undef, undef, undef, undef, undef, undef, undef, undef, undef, undef, undef, undef, undef, undef, undef, undef, undef, undef, undef, undef, undef, undef, undef, undef, undef, undef, undef, undef, undef, undef, undef, undef, undef, undef, undef, undef, undef, undef, undef, undef, undef, undef, undef, undef, undef, undef, undef].toArray, []⟩ r374.2 (fun a w => s11K0 .normal a w)
noncomputable def s11 (x0 : Value) (w : World) : Option (Value × World) :=
  (Xbox Try.prog 53 x0 w).bind fun r374 =>
  (evIdx Try.prog (opsOf (nav [1, 0] (bodyOf Try.f11))) (Region.linearise .any (opsOf (nav [1, 0] (bodyOf Try.f11))) (r374.2.tape r374.2.drawn (.order 11 1))) ⟨[x0, r374.1, (Go.Value.bool false), undef, undef, undef, undef, undef, undef, undef, undef, undef, undef, undef, undef, undef, undef, undef, undef, undef, undef, undef, undef, undef, undef, undef, undef, undef, undef, undef, undef, undef, undef, undef, undef, undef, undef, undef, undef, undef, undef, undef, undef, undef, undef, undef, undef, undef, undef, undef, undef, undef, undef, undef, undef, undef, undef, undef, undef, undef, undef, undef, undef, undef, undef, undef, undef, undef, undef, undef, undef, undef, undef, undef, undef, undef, undef, undef, undef, undef, undef, undef, undef, undef, undef, undef, undef, undef, undef, undef, undef, undef, undef, undef, undef, undef, undef, undef, undef, undef, undef, undef, undef, undef, undef, undef, undef, undef, undef, undef, undef, undef, undef, undef, undef, undef, undef, undef, undef, undef, undef, undef, undef, undef, undef, undef, undef, undef, undef, undef, undef, undef, undef, undef, undef, undef, undef, undef, undef, undef, undef, undef, undef, undef, undef, undef, undef, undef, undef, undef, undef, undef, undef, undef, undef, undef, undef, undef, undef, undef, undef, undef, undef, undef, undef, undef, undef, undef, undef, undef, undef, undef, undef, undef, undef, undef, undef, undef, undef, undef, undef, undef, undef, undef, undef, undef, undef, undef, undef, undef, undef, undef, undef, undef, undef, undef, undef, undef, undef, undef, undef, undef, undef].toArray, []⟩ r374.2.drew).bind fun x => s11M0 (x.1.tmps.getD 2 undef) (x.1.tmps.getD 3 undef) (x.1.tmps.getD 4 undef) (x.1.tmps.getD 5 undef) (x.1.tmps.getD 6 undef) x.2
theorem s11B4eq (x2 x3 x5 x7 x8 x9 x10 x11 x12 x13 x14 x15 x16 : Value) (w : World) (g : Nat → Value) (d : List Deferred) : evK Try.prog 11 none (nav [1, 1, 1, 1, 1, 1, 1, 1, 1, 1, 1, 0, 1, 0, 0, 1, 0, 0, 1, 1, 1, 1, 0, 1, 0, 0] (bodyOf Try.f11)) none _ (frm 203 (setL [2, 3, 5, 7, 8, 9, 10, 11, 12, 13, 14, 15, 16] [x2, x3, x5, x7, x8, x9, x10, x11, x12, x13, x14, x15, x16] g) d) w (projK [2, 3, 5, 7, 8, 9, 10, 11, 12, 13, 14, 15, 16]) = s11B4 [x2, x3, x5, x7, x8, x9, x10, x11, x12, x13, x14, x15, x16] w := by kernel_rfl
theorem s11R4x2eq (x2 x3 x5 x7 x8 x9 x10 x11 x12 x13 x14 x15 x16 : Value) (g : Nat → Value) (w : World) : s11K8 (Exit.exit 2) (frm 203 (setL [2, 3, 5, 7, 8, 9, 10, 11, 12, 13, 14, 15, 16] [x2, x3, x5, x7, x8, x9, x10, x11, x12, x13, x14, x15, x16] g) []) w = s11R4 (Exit.exit 2) [x2, x3, x5, x7, x8, x9, x10, x11, x12, x13, x14, x15, x16] w := by kernel_rfl
theorem s11R4ret_eq (x2 x3 x5 x7 x8 x9 x10 x11 x12 x13 x14 x15 x16 : Value) (g : Nat → Value) (w : World) : s11K8 Exit.ret (frm 203 (setL [2, 3, 5, 7, 8, 9, 10, 11, 12, 13, 14, 15, 16] [x2, x3, x5, x7, x8, x9, x10, x11, x12, x13, x14, x15, x16] g) []) w = s11R4 Exit.ret [x2, x3, x5, x7, x8, x9, x10, x11, x12, x13, x14, x15, x16] w := by kernel_rfl
theorem s11R4of : ∀ (e : Exit) (xs : List Value) (w : World) (g : Nat → Value) (y : _), s11R4 e xs w = some y → s11K8 e (frm 203 (setL [2, 3, 5, 7, 8, 9, 10, 11, 12, 13, 14, 15, 16] xs g) []) w = some y := by
  intro e xs w g y h
  unfold s11R4 at h
  split at h
  · exact (s11R4x2eq _ _ _ _ _ _ _ _ _ _ _ _ _ g _).trans h
  · exact (s11R4ret_eq _ _ _ _ _ _ _ _ _ _ _ _ _ g _).trans h
  · cases h
theorem s11L4of {s0 s1 s2 s3 s4 s5 s6 s7 s8 s9 s10 s11 s12 s13 s14 s15 s16 s17 s18 s19 s20 s21 s22 s23 s24 s25 s26 s27 s28 s29 s30 s31 s32 s33 s34 s35 s36 s37 s38 s39 s40 s41 s42 s43 s44 s45 s46 s47 s48 s49 s50 s51 s52 s53 s54 s55 s56 s57 s58 s59 s60 s61 s62 s63 s64 s65 s66 s67 s68 s69 s70 s71 s72 s73 s74 s75 s76 s77 s78 s79 s80 s81 s82 s83 s84 s85 s86 s87 s88 s89 s90 s91 s92 s93 s94 s95 s96 s97 s98 s99 s100 s101 s102 s103 s104 s105 s106 s107 s108 s109 s110 s111 s112 s113 s114 s115 s116 s117 s118 s119 s120 s121 s122 s123 s124 s125 s126 s127 s128 s129 s130 s131 s132 s133 s134 s135 s136 s137 s138 s139 s140 s141 s142 s143 s144 s145 s146 s147 s148 s149 s150 s151 s152 s153 s154 s155 s156 s157 s158 s159 s160 s161 s162 s163 s164 s165 s166 s167 s168 s169 s170 s171 s172 s173 s174 s175 s176 s177 s178 s179 s180 s181 s182 s183 s184 s185 s186 s187 s188 s189 s190 s191 s192 s193 s194 s195 s196 s197 s198 s199 s200 s201 s202 : Value} {w : World} {r : _} (h : loopR s11B4 s11R4 [s2, s3, s5, s7, s8, s9, s10, s11, s12, s13, s14, s15, s16] w = some r) : s11L4 [s0, s1, s2, s3, s4, s5, s6, s7, s8, s9, s10, s11, s12, s13, s14, s15, s16, s17, s18, s19, s20, s21, s22, s23, s24, s25, s26, s27, s28, s29, s30, s31, s32, s33, s34, s35, s36, s37, s38, s39, s40, s41, s42, s43, s44, s45, s46, s47, s48, s49, s50, s51, s52, s53, s54, s55, s56, s57, s58, s59, s60, s61, s62, s63, s64, s65, s66, s67, s68, s69, s70, s71, s72, s73, s74, s75, s76, s77, s78, s79, s80, s81, s82, s83, s84, s85, s86, s87, s88, s89, s90, s91, s92, s93, s94, s95, s96, s97, s98, s99, s100, s101, s102, s103, s104, s105, s106, s107, s108, s109, s110, s111, s112, s113, s114, s115, s116, s117, s118, s119, s120, s121, s122, s123, s124, s125, s126, s127, s128, s129, s130, s131, s132, s133, s134, s135, s136, s137, s138, s139, s140, s141, s142, s143, s144, s145, s146, s147, s148, s149, s150, s151, s152, s153, s154, s155, s156, s157, s158, s159, s160, s161, s162, s163, s164, s165, s166, s167, s168, s169, s170, s171, s172, s173, s174, s175, s176, s177, s178, s179, s180, s181, s182, s183, s184, s185, s186, s187, s188, s189, s190, s191, s192, s193, s194, s195, s196, s197, s198, s199, s200, s201, s202] [] w = some r :=
  loopN_of (B := s11B4) (R := s11R4) (n := 203) (live := [2, 3, 5, 7, 8, 9, 10, 11, 12, 13, 14, 15, 16]) (fun xs w g y hl h => match xs, hl, h with | [x2, x3, x5, x7, x8, x9, x10, x11, x12, x13, x14, x15, x16], _, h => (s11B4eq x2 x3 x5 x7 x8 x9 x10 x11 x12 x13 x14 x15 x16 w g []).trans h) (by kernel_rfl) (s11R4of) (fun i => ([s0, s1, s2, s3, s4, s5, s6, s7, s8, s9, s10, s11, s12, s13, s14, s15, s16, s17, s18, s19, s20, s21, s22, s23, s24, s25, s26, s27, s28, s29, s30, s31, s32, s33, s34, s35, s36, s37, s38, s39, s40, s41, s42, s43, s44, s45, s46, s47, s48, s49, s50, s51, s52, s53, s54, s55, s56, s57, s58, s59, s60, s61, s62, s63, s64, s65, s66, s67, s68, s69, s70, s71, s72, s73, s74, s75, s76, s77, s78, s79, s80, s81, s82, s83, s84, s85, s86, s87, s88, s89, s90, s91, s92, s93, s94, s95, s96, s97, s98, s99, s100, s101, s102, s103, s104, s105, s106, s107, s108, s109, s110, s111, s112, s113, s114, s115, s116, s117, s118, s119, s120, s121, s122, s123, s124, s125, s126, s127, s128, s129, s130, s131, s132, s133, s134, s135, s136, s137, s138, s139, s140, s141, s142, s143, s144, s145, s146, s147, s148, s149, s150, s151, s152, s153, s154, s155, s156, s157, s158, s159, s160, s161, s162, s163, s164, s165, s166, s167, s168, s169, s170, s171, s172, s173, s174, s175, s176, s177, s178, s179, s180, s181, s182, s183, s184, s185, s186, s187, s188, s189, s190, s191, s192, s193, s194, s195, s196, s197, s198, s199, s200, s201, s202] : List Value).getD i undef) (by kernel_rfl) rfl h
theorem s11J3eq (s0 s1 s2 s3 s4 s5 s6 s7 s8 s9 s10 s11 s12 s13 s14 s15 s16 s17 s18 s19 s20 s21 s22 s23 s24 s25 s26 s27 s28 s29 s30 s31 s32 s33 s34 s35 s36 s37 s38 s39 s40 s41 s42 s43 s44 s45 s46 s47 s48 s49 s50 s51 s52 s53 s54 s55 s56 s57 s58 s59 s60 s61 s62 s63 s64 s65 s66 s67 s68 s69 s70 s71 s72 s73 s74 s75 s76 s77 s78 s79 s80 s81 s82 s83 s84 s85 s86 s87 s88 s89 s90 s91 s92 s93 s94 s95 s96 s97 s98 s99 s100 s101 s102 s103 s104 s105 s106 s107 s108 s109 s110 s111 s112 s113 s114 s115 s116 s117 s118 s119 s120 s121 s122 s123 s124 s125 s126 s127 s128 s129 s130 s131 s132 s133 s134 s135 s136 s137 s138 s139 s140 s141 s142 s143 s144 s145 s146 s147 s148 s149 s150 s151 s152 s153 s154 s155 s156 s157 s158 s159 s160 s161 s162 s163 s164 s165 s166 s167 s168 s169 s170 s171 s172 s173 s174 s175 s176 s177 s178 s179 s180 s181 s182 s183 s184 s185 s186 s187 s188 s189 s190 s191 s192 s193 s194 s195 s196 s197 s198 s199 s200 s201 s202 : Value) (w : World) : s11J3 [s0, s1, s2, s3, s4, s5, s6, s7, s8, s9, s10, s11, s12, s13, s14, s15, s16, s17, s18, s19, s20, s21, s22, s23, s24, s25, s26, s27, s28, s29, s30, s31, s32, s33, s34, s35, s36, s37, s38, s39, s40, s41, s42, s43, s44, s45, s46, s47, s48, s49, s50, s51, s52, s53, s54, s55, s56, s57, s58, s59, s60, s61, s62, s63, s64, s65, s66, s67, s68, s69, s70, s71, s72, s73, s74, s75, s76, s77, s78, s79, s80, s81, s82, s83, s84, s85, s86, s87, s88, s89, s90, s91, s92, s93, s94, s95, s96, s97, s98, s99, s100, s101, s102, s103, s104, s105, s106, s107, s108, s109, s110, s111, s112, s113, s114, s115, s116, s117, s118, s119, s120, s121, s122, s123, s124, s125, s126, s127, s128, s129, s130, s131, s132, s133, s134, s135, s136, s137, s138, s139, s140, s141, s142, s143, s144, s145, s146, s147, s148, s149, s150, s151, s152, s153, s154, s155, s156, s157, s158, s159, s160, s161, s162, s163, s164, s165, s166, s167, s168, s169, s170, s171, s172, s173, s174, s175, s176, s177, s178, s179, s180, s181, s182, s183, s184, s185, s186, s187, s188, s189, s190, s191, s192, s193, s194, s195, s196, s197, s198, s199, s200, s201, s202] [] w = s11M3raw s0 s1 s2 s3 s4 s5 s6 s7 s8 s9 s10 s11 s12 s13 s14 s15 s16 s17 s18 s19 s20 s21 s22 s23 s24 s25 s26 s27 s28 s29 s30 s31 s32 s33 s34 s35 s36 s37 s38 s39 s40 s41 s42 s43 s44 s45 s46 s47 s48 s49 s50 s51 s52 s53 s54 s55 s56 s57 s58 s59 s60 s61 s62 s63 s64 s65 s66 s67 s68 s69 s70 s71 s72 s73 s74 s75 s76 s77 s78 s79 s80 s81 s82 s83 s84 s85 s86 s87 s88 s89 s90 s91 s92 s93 s94 s95 s96 s97 s98 s99 s100 s101 s102 s103 s104 s105 s106 s107 s108 s109 s110 s111 s112 s113 s114 s115 s116 s117 s118 s119 s120 s121 s122 s123 s124 s125 s126 s127 s128 s129 s130 s131 s132 s133 s134 s135 s136 s137 s138 s139 s140 s141 s142 s143 s144 s145 s146 s147 s148 s149 s150 s151 s152 s153 s154 s155 s156 s157 s158 s159 s160 s161 s162 s163 s164 s165 s166 s167 s168 s169 s170 s171 s172 s173 s174 s175 s176 s177 s178 s179 s180 s181 s182 s183 s184 s185 s186 s187 s188 s189 s190 s191 s192 s193 s194 s195 s196 s197 s198 s199 s200 s201 s202 w := (show s11J3 [s0, s1, s2, s3, s4, s5, s6, s7, s8, s9, s10, s11, s12, s13, s14, s15, s16, s17, s18, s19, s20, s21, s22, s23, s24, s25, s26, s27, s28, s29, s30, s31, s32, s33, s34, s35, s36, s37, s38, s39, s40, s41, s42, s43, s44, s45, s46, s47, s48, s49, s50, s51, s52, s53, s54, s55, s56, s57, s58, s59, s60, s61, s62, s63, s64, s65, s66, s67, s68, s69, s70, s71, s72, s73, s74, s75, s76, s77, s78, s79, s80, s81, s82, s83, s84, s85, s86, s87, s88, s89, s90, s91, s92, s93, s94, s95, s96, s97, s98, s99, s100, s101, s102, s103, s104, s105, s106, s107, s108, s109, s110, s111, s112, s113, s114, s115, s116, s117, s118, s119, s120, s121, s122, s123, s124, s125, s126, s127, s128, s129, s130, s131, s132, s133, s134, s135, s136, s137, s138, s139, s140, s141, s142, s143, s144, s145, s146, s147, s148, s149, s150, s151, s152, s153, s154, s155, s156, s157, s158, s159, s160, s161, s162, s163, s164, s165, s166, s167, s168, s169, s170, s171, s172, s173, s174, s175, s176, s177, s178, s179, s180, s181, s182, s183, s184, s185, s186, s187, s188, s189, s190, s191, s192, s193, s194, s195, s196, s197, s198, s199, s200, s201, s202] [] w = evK Try.prog 11 none (nav [1, 1, 1, 1, 1, 1, 1, 1, 1, 1, 1, 0, 1, 0, 0, 1, 0, 0, 1, 1, 1] (bodyOf Try.f11)) none _ ⟨[s0, s1, s2, s3, s4, s5, s6, s7, s8, s9, s10, s11, s12, s13, s14, s15, s16, s17, s18, s19, s20, s21, s22, s23, s24, s25, s26, s27, s28, s29, s30, s31, s32, s33, s34, s35, s36, s37, s38, s39, s40, s41, s42, s43, s44, s45, s46, s47, s48, s49, s50, s51, s52, s53, s54, s55, s56, s57, s58, s59, s60, s61, s62, s63, s64, s65, s66, s67, s68, s69, s70, s71, s72, s73, s74, s75, s76, s77, s78, s79, s80, s81, s82, s83, s84, s85, s86, s87, s88, s89, s90, s91, s92, s93, s94, s95, s96, s97, s98, s99, s100, s101, s102, s103, s104, s105, s106, s107, s108, s109, s110, s111, s112, s113, s114, s115, s116, s117, s118, s119, s120, s121, s122, s123, s124, s125, s126, s127, s128, s129, s130, s131, s132, s133, s134, s135, s136, s137, s138, s139, s140, s141, s142, s143, s144, s145, s146, s147, s148, s149, s150, s151, s152, s153, s154, s155, s156, s157, s158, s159, s160, s161, s162, s163, s164, s165, s166, s167, s168, s169, s170, s171, s172, s173, s174, s175, s176, s177, s178, s179, s180, s181, s182, s183, s184, s185, s186, s187, s188, s189, s190, s191, s192, s193, s194, s195, s196, s197, s198, s199, s200, s201, s202].toArray, []⟩ w s11K5 from by kernel_rfl).trans (by kernel_rfl)
theorem s11J3of {s0 s1 s2 s3 s4 s5 s6 s7 s8 s9 s10 s11 s12 s13 s14 s15 s16 s17 s18 s19 s20 s21 s22 s23 s24 s25 s26 s27 s28 s29 s30 s31 s32 s33 s34 s35 s36 s37 s38 s39 s40 s41 s42 s43 s44 s45 s46 s47 s48 s49 s50 s51 s52 s53 s54 s55 s56 s57 s58 s59 s60 s61 s62 s63 s64 s65 s66 s67 s68 s69 s70 s71 s72 s73 s74 s75 s76 s77 s78 s79 s80 s81 s82 s83 s84 s85 s86 s87 s88 s89 s90 s91 s92 s93 s94 s95 s96 s97 s98 s99 s100 s101 s102 s103 s104 s105 s106 s107 s108 s109 s110 s111 s112 s113 s114 s115 s116 s117 s118 s119 s120 s121 s122 s123 s124 s125 s126 s127 s128 s129 s130 s131 s132 s133 s134 s135 s136 s137 s138 s139 s140 s141 s142 s143 s144 s145 s146 s147 s148 s149 s150 s151 s152 s153 s154 s155 s156 s157 s158 s159 s160 s161 s162 s163 s164 s165 s166 s167 s168 s169 s170 s171 s172 s173 s174 s175 s176 s177 s178 s179 s180 s181 s182 s183 s184 s185 s186 s187 s188 s189 s190 s191 s192 s193 s194 s195 s196 s197 s198 s199 s200 s201 s202 : Value} {w : World} {r : _} (h : s11M3 s2 s3 s5 s7 s8 s9 s10 s11 s12 s13 s14 w = some r) : s11J3 [s0, s1, s2, s3, s4, s5, s6, s7, s8, s9, s10, s11, s12, s13, s14, s15, s16, s17, s18, s19, s20, s21, s22, s23, s24, s25, s26, s27, s28, s29, s30, s31, s32, s33, s34, s35, s36, s37, s38, s39, s40, s41, s42, s43, s44, s45, s46, s47, s48, s49, s50, s51, s52, s53, s54, s55, s56, s57, s58, s59, s60, s61, s62, s63, s64, s65, s66, s67, s68, s69, s70, s71, s72, s73, s74, s75, s76, s77, s78, s79, s80, s81, s82, s83, s84, s85, s86, s87, s88, s89, s90, s91, s92, s93, s94, s95, s96, s97, s98, s99, s100, s101, s102, s103, s104, s105, s106, s107, s108, s109, s110, s111, s112, s113, s114, s115, s116, s117, s118, s119, s120, s121, s122, s123, s124, s125, s126, s127, s128, s129, s130, s131, s132, s133, s134, s135, s136, s137, s138, s139, s140, s141, s142, s143, s144, s145, s146, s147, s148, s149, s150, s151, s152, s153, s154, s155, s156, s157, s158, s159, s160, s161, s162, s163, s164, s165, s166, s167, s168, s169, s170, s171, s172, s173, s174, s175, s176, s177, s178, s179, s180, s181, s182, s183, s184, s185, s186, s187, s188, s189, s190, s191, s192, s193, s194, s195, s196, s197, s198, s199, s200, s201, s202] [] w = some r :=
  ((s11J3eq s0 s1 s2 s3 s4 s5 s6 s7 s8 s9 s10 s11 s12 s13 s14 s15 s16 s17 s18 s19 s20 s21 s22 s23 s24 s25 s26 s27 s28 s29 s30 s31 s32 s33 s34 s35 s36 s37 s38 s39 s40 s41 s42 s43 s44 s45 s46 s47 s48 s49 s50 s51 s52 s53 s54 s55 s56 s57 s58 s59 s60 s61 s62 s63 s64 s65 s66 s67 s68 s69 s70 s71 s72 s73 s74 s75 s76 s77 s78 s79 s80 s81 s82 s83 s84 s85 s86 s87 s88 s89 s90 s91 s92 s93 s94 s95 s96 s97 s98 s99 s100 s101 s102 s103 s104 s105 s106 s107 s108 s109 s110 s111 s112 s113 s114 s115 s116 s117 s118 s119 s120 s121 s122 s123 s124 s125 s126 s127 s128 s129 s130 s131 s132 s133 s134 s135 s136 s137 s138 s139 s140 s141 s142 s143 s144 s145 s146 s147 s148 s149 s150 s151 s152 s153 s154 s155 s156 s157 s158 s159 s160 s161 s162 s163 s164 s165 s166 s167 s168 s169 s170 s171 s172 s173 s174 s175 s176 s177 s178 s179 s180 s181 s182 s183 s184 s185 s186 s187 s188 s189 s190 s191 s192 s193 s194 s195 s196 s197 s198 s199 s200 s201 s202 w).trans ((Ev.bind_mono fun (v438 : Value) => (Ev.bind_mono fun (v439 : Value) => (Ev.bind_mono fun (r440 : Value × World) => (Ev.bind_mono fun (v441 : Value) => (Ev.bind_mono fun (v442 : Value) => (s11L4of)))))) h))
theorem s11B2eq (x2 x3 x5 x7 x8 x9 x10 x11 x12 x13 : Value) (w : World) (g : Nat → Value) (d : List Deferred) : evK Try.prog 11 none (nav [1, 1, 1, 1, 1, 1, 1, 1, 1, 1, 1, 0, 1, 0, 0] (bodyOf Try.f11)) none _ (frm 203 (setL [2, 3, 5, 7, 8, 9, 10, 11, 12, 13] [x2, x3, x5, x7, x8, x9, x10, x11, x12, x13] g) d) w (projK [2, 3, 5, 7, 8, 9, 10, 11, 12, 13]) = s11B2raw g d [x2, x3, x5, x7, x8, x9, x10, x11, x12, x13] w := by kernel_rfl
theorem s11R2x0eq (x2 x3 x5 x7 x8 x9 x10 x11 x12 x13 : Value) (g : Nat → Value) (w : World) : s11K3 (Exit.exit 0) (frm 203 (setL [2, 3, 5, 7, 8, 9, 10, 11, 12, 13] [x2, x3, x5, x7, x8, x9, x10, x11, x12, x13] g) []) w = s11R2 (Exit.exit 0) [x2, x3, x5, x7, x8, x9, x10, x11, x12, x13] w := by kernel_rfl
theorem s11R2ret_eq (x2 x3 x5 x7 x8 x9 x10 x11 x12 x13 : Value) (g : Nat → Value) (w : World) : s11K3 Exit.ret (frm 203 (setL [2, 3, 5, 7, 8, 9, 10, 11, 12, 13] [x2, x3, x5, x7, x8, x9, x10, x11, x12, x13] g) []) w = s11R2 Exit.ret [x2, x3, x5, x7, x8, x9, x10, x11, x12, x13] w := by kernel_rfl
theorem s11R2of : ∀ (e : Exit) (xs : List Value) (w : World) (g : Nat → Value) (y : _), s11R2 e xs w = some y → s11K3 e (frm 203 (setL [2, 3, 5, 7, 8, 9, 10, 11, 12, 13] xs g) []) w = some y := by
  intro e xs w g y h
  unfold s11R2 at h
  split at h
  · exact (s11R2x0eq _ _ _ _ _ _ _ _ _ _ g _).trans h
  · exact (s11R2ret_eq _ _ _ _ _ _ _ _ _ _ g _).trans h
  · cases h
theorem s11L2of {s0 s1 s2 s3 s4 s5 s6 s7 s8 s9 s10 s11 s12 s13 s14 s15 s16 s17 s18 s19 s20 s21 s22 s23 s24 s25 s26 s27 s28 s29 s30 s31 s32 s33 s34 s35 s36 s37 s38 s39 s40 s41 s42 s43 s44 s45 s46 s47 s48 s49 s50 s51 s52 s53 s54 s55 s56 s57 s58 s59 s60 s61 s62 s63 s64 s65 s66 s67 s68 s69 s70 s71 s72 s73 s74 s75 s76 s77 s78 s79 s80 s81 s82 s83 s84 s85 s86 s87 s88 s89 s90 s91 s92 s93 s94 s95 s96 s97 s98 s99 s100 s101 s102 s103 s104 s105 s106 s107 s108 s109 s110 s111 s112 s113 s114 s115 s116 s117 s118 s119 s120 s121 s122 s123 s124 s125 s126 s127 s128 s129 s130 s131 s132 s133 s134 s135 s136 s137 s138 s139 s140 s141 s142 s143 s144 s145 s146 s147 s148 s149 s150 s151 s152 s153 s154 s155 s156 s157 s158 s159 s160 s161 s162 s163 s164 s165 s166 s167 s168 s169 s170 s171 s172 s173 s174 s175 s176 s177 s178 s179 s180 s181 s182 s183 s184 s185 s186 s187 s188 s189 s190 s191 s192 s193 s194 s195 s196 s197 s198 s199 s200 s201 s202 : Value} {w : World} {r : _} (h : loopR s11B2 s11R2 [s2, s3, s5, s7, s8, s9, s10, s11, s12, s13] w = some r) : s11L2 [s0, s1, s2, s3, s4, s5, s6, s7, s8, s9, s10, s11, s12, s13, s14, s15, s16, s17, s18, s19, s20, s21, s22, s23, s24, s25, s26, s27, s28, s29, s30, s31, s32, s33, s34, s35, s36, s37, s38, s39, s40, s41, s42, s43, s44, s45, s46, s47, s48, s49, s50, s51, s52, s53, s54, s55, s56, s57, s58, s59, s60, s61, s62, s63, s64, s65, s66, s67, s68, s69, s70, s71, s72, s73, s74, s75, s76, s77, s78, s79, s80, s81, s82, s83, s84, s85, s86, s87, s88, s89, s90, s91, s92, s93, s94, s95, s96, s97, s98, s99, s100, s101, s102, s103, s104, s105, s106, s107, s108, s109, s110, s111, s112, s113, s114, s115, s116, s117, s118, s119, s120, s121, s122, s123, s124, s125, s126, s127, s128, s129, s130, s131, s132, s133, s134, s135, s136, s137, s138, s139, s140, s141, s142, s143, s144, s145, s146, s147, s148, s149, s150, s151, s152, s153, s154, s155, s156, s157, s158, s159, s160, s161, s162, s163, s164, s165, s166, s167, s168, s169, s170, s171, s172, s173, s174, s175, s176, s177, s178, s179, s180, s181, s182, s183, s184, s185, s186, s187, s188, s189, s190, s191, s192, s193, s194, s195, s196, s197, s198, s199, s200, s201, s202] [] w = some r :=
  loopN_of (B := s11B2) (R := s11R2) (n := 203) (live := [2, 3, 5, 7, 8, 9, 10, 11, 12, 13]) (fun xs w g y hl h => match xs, hl, h with | [x2, x3, x5, x7, x8, x9, x10, x11, x12, x13], _, h => (s11B2eq x2 x3 x5 x7 x8 x9 x10 x11 x12 x13 w g []).trans (show s11B2raw g [] [x2, x3, x5, x7, x8, x9, x10, x11, x12, x13] w = some y from (Ev.bind_mono fun (v411 : Value) => (Ev.bind_mono fun (v412 : Value) => (condK_mono (Ev.bind_mono fun (v413 : Value) => (Ev.bind_mono fun (v414 : Value) => (Ev.bind_mono fun (v415 : Value) => (Ev.bind_mono fun (v416 : Value) => (condK_mono id (Ev.bind_mono fun (v418 : Value) => (Ev.bind_mono fun (v419 : Value) => (Ev.bind_mono fun (v420 : Value) => (condK_mono (Ev.bind_mono fun (v421 : Value) => (Ev.bind_mono fun (v422 : Value) => (Ev.bind_mono fun (r423 : Value × World) => (Ev.bind_mono fun (v424 : Value) => (Ev.bind_mono fun (v425 : Value) => (s11J3of)))))) (s11J3of)))))))))) id))) h)) (by kernel_rfl) (s11R2of) (fun i => ([s0, s1, s2, s3, s4, s5, s6, s7, s8, s9, s10, s11, s12, s13, s14, s15, s16, s17, s18, s19, s20, s21, s22, s23, s24, s25, s26, s27, s28, s29, s30, s31, s32, s33, s34, s35, s36, s37, s38, s39, s40, s41, s42, s43, s44, s45, s46, s47, s48, s49, s50, s51, s52, s53, s54, s55, s56, s57, s58, s59, s60, s61, s62, s63, s64, s65, s66, s67, s68, s69, s70, s71, s72, s73, s74, s75, s76, s77, s78, s79, s80, s81, s82, s83, s84, s85, s86, s87, s88, s89, s90, s91, s92, s93, s94, s95, s96, s97, s98, s99, s100, s101, s102, s103, s104, s105, s106, s107, s108, s109, s110, s111, s112, s113, s114, s115, s116, s117, s118, s119, s120, s121, s122, s123, s124, s125, s126, s127, s128, s129, s130, s131, s132, s133, s134, s135, s136, s137, s138, s139, s140, s141, s142, s143, s144, s145, s146, s147, s148, s149, s150, s151, s152, s153, s154, s155, s156, s157, s158, s159, s160, s161, s162, s163, s164, s165, s166, s167, s168, s169, s170, s171, s172, s173, s174, s175, s176, s177, s178, s179, s180, s181, s182, s183, s184, s185, s186, s187, s188, s189, s190, s191, s192, s193, s194, s195, s196, s197, s198, s199, s200, s201, s202] : List Value).getD i undef) (by kernel_rfl) rfl h
theorem s11J1eq (s0 s1 s2 s3 s4 s5 s6 s7 s8 s9 s10 s11 s12 s13 s14 s15 s16 s17 s18 s19 s20 s21 s22 s23 s24 s25 s26 s27 s28 s29 s30 s31 s32 s33 s34 s35 s36 s37 s38 s39 s40 s41 s42 s43 s44 s45 s46 s47 s48 s49 s50 s51 s52 s53 s54 s55 s56 s57 s58 s59 s60 s61 s62 s63 s64 s65 s66 s67 s68 s69 s70 s71 s72 s73 s74 s75 s76 s77 s78 s79 s80 s81 s82 s83 s84 s85 s86 s87 s88 s89 s90 s91 s92 s93 s94 s95 s96 s97 s98 s99 s100 s101 s102 s103 s104 s105 s106 s107 s108 s109 s110 s111 s112 s113 s114 s115 s116 s117 s118 s119 s120 s121 s122 s123 s124 s125 s126 s127 s128 s129 s130 s131 s132 s133 s134 s135 s136 s137 s138 s139 s140 s141 s142 s143 s144 s145 s146 s147 s148 s149 s150 s151 s152 s153 s154 s155 s156 s157 s158 s159 s160 s161 s162 s163 s164 s165 s166 s167 s168 s169 s170 s171 s172 s173 s174 s175 s176 s177 s178 s179 s180 s181 s182 s183 s184 s185 s186 s187 s188 s189 s190 s191 s192 s193 s194 s195 s196 s197 s198 s199 s200 s201 s202 : Value) (w : World) : s11J1 [s0, s1, s2, s3, s4, s5, s6, s7, s8, s9, s10, s11, s12, s13, s14, s15, s16, s17, s18, s19, s20, s21, s22, s23, s24, s25, s26, s27, s28, s29, s30, s31, s32, s33, s34, s35, s36, s37, s38, s39, s40, s41, s42, s43, s44, s45, s46, s47, s48, s49, s50, s51, s52, s53, s54, s55, s56, s57, s58, s59, s60, s61, s62, s63, s64, s65, s66, s67, s68, s69, s70, s71, s72, s73, s74, s75, s76, s77, s78, s79, s80, s81, s82, s83, s84, s85, s86, s87, s88, s89, s90, s91, s92, s93, s94, s95, s96, s97, s98, s99, s100, s101, s102, s103, s104, s105, s106, s107, s108, s109, s110, s111, s112, s113, s114, s115, s116, s117, s118, s119, s120, s121, s122, s123, s124, s125, s126, s127, s128, s129, s130, s131, s132, s133, s134, s135, s136, s137, s138, s139, s140, s141, s142, s143, s144, s145, s146, s147, s148, s149, s150, s151, s152, s153, s154, s155, s156, s157, s158, s159, s160, s161, s162, s163, s164, s165, s166, s167, s168, s169, s170, s171, s172, s173, s174, s175, s176, s177, s178, s179, s180, s181, s182, s183, s184, s185, s186, s187, s188, s189, s190, s191, s192, s193, s194, s195, s196, s197, s198, s199, s200, s201, s202] [] w = s11M1raw s0 s1 s2 s3 s4 s5 s6 s7 s8 s9 s10 s11 s12 s13 s14 s15 s16 s17 s18 s19 s20 s21 s22 s23 s24 s25 s26 s27 s28 s29 s30 s31 s32 s33 s34 s35 s36 s37 s38 s39 s40 s41 s42 s43 s44 s45 s46 s47 s48 s49 s50 s51 s52 s53 s54 s55 s56 s57 s58 s59 s60 s61 s62 s63 s64 s65 s66 s67 s68 s69 s70 s71 s72 s73 s74 s75 s76 s77 s78 s79 s80 s81 s82 s83 s84 s85 s86 s87 s88 s89 s90 s91 s92 s93 s94 s95 s96 s97 s98 s99 s100 s101 s102 s103 s104 s105 s106 s107 s108 s109 s110 s111 s112 s113 s114 s115 s116 s117 s118 s119 s120 s121 s122 s123 s124 s125 s126 s127 s128 s129 s130 s131 s132 s133 s134 s135 s136 s137 s138 s139 s140 s141 s142 s143 s144 s145 s146 s147 s148 s149 s150 s151 s152 s153 s154 s155 s156 s157 s158 s159 s160 s161 s162 s163 s164 s165 s166 s167 s168 s169 s170 s171 s172 s173 s174 s175 s176 s177 s178 s179 s180 s181 s182 s183 s184 s185 s186 s187 s188 s189 s190 s191 s192 s193 s194 s195 s196 s197 s198 s199 s200 s201 s202 w := (show s11J1 [s0, s1, s2, s3, s4, s5, s6, s7, s8, s9, s10, s11, s12, s13, s14, s15, s16, s17, s18, s19, s20, s21, s22, s23, s24, s25, s26, s27, s28, s29, s30, s31, s32, s33, s34, s35, s36, s37, s38, s39, s40, s41, s42, s43, s44, s45, s46, s47, s48, s49, s50, s51, s52, s53, s54, s55, s56, s57, s58, s59, s60, s61, s62, s63, s64, s65, s66, s67, s68, s69, s70, s71, s72, s73, s74, s75, s76, s77, s78, s79, s80, s81, s82, s83, s84, s85, s86, s87, s88, s89, s90, s91, s92, s93, s94, s95, s96, s97, s98, s99, s100, s101, s102, s103, s104, s105, s106, s107, s108, s109, s110, s111, s112, s113, s114, s115, s116, s117, s118, s119, s120, s121, s122, s123, s124, s125, s126, s127, s128, s129, s130, s131, s132, s133, s134, s135, s136, s137, s138, s139, s140, s141, s142, s143, s144, s145, s146, s147, s148, s149, s150, s151, s152, s153, s154, s155, s156, s157, s158, s159, s160, s161, s162, s163, s164, s165, s166, s167, s168, s169, s170, s171, s172, s173, s174, s175, s176, s177, s178, s179, s180, s181, s182, s183, s184, s185, s186, s187, s188, s189, s190, s191, s192, s193, s194, s195, s196, s197, s198, s199, s200, s201, s202] [] w = evK Try.prog 11 none (nav [1, 1, 1, 1, 1, 1, 1] (bodyOf Try.f11)) none _ ⟨[s0, s1, s2, s3, s4, s5, s6, s7, s8, s9, s10, s11, s12, s13, s14, s15, s16, s17, s18, s19, s20, s21, s22, s23, s24, s25, s26, s27, s28, s29, s30, s31, s32, s33, s34, s35, s36, s37, s38, s39, s40, s41, s42, s43, s44, s45, s46, s47, s48, s49, s50, s51, s52, s53, s54, s55, s56, s57, s58, s59, s60, s61, s62, s63, s64, s65, s66, s67, s68, s69, s70, s71, s72, s73, s74, s75, s76, s77, s78, s79, s80, s81, s82, s83, s84, s85, s86, s87, s88, s89, s90, s91, s92, s93, s94, s95, s96, s97, s98, s99, s100, s101, s102, s103, s104, s105, s106, s107, s108, s109, s110, s111, s112, s113, s114, s115, s116, s117, s118, s119, s120, s121, s122, s123, s124, s125, s126, s127, s128, s129, s130, s131, s132, s133, s134, s135, s136, s137, s138, s139, s140, s141, s142, s143, s144, s145, s146, s147, s148, s149, s150, s151, s152, s153, s154, s155, s156, s157, s158, s159, s160, s161, s162, s163, s164, s165, s166, s167, s168, s169, s170, s171, s172, s173, s174, s175, s176, s177, s178, s179, s180, s181, s182, s183, s184, s185, s186, s187, s188, s189, s190, s191, s192, s193, s194, s195, s196, s197, s198, s199, s200, s201, s202].toArray, []⟩ w (leaveK Try.prog Try.f11) from by kernel_rfl).trans (by kernel_rfl)
theorem s11J1of {s0 s1 s2 s3 s4 s5 s6 s7 s8 s9 s10 s11 s12 s13 s14 s15 s16 s17 s18 s19 s20 s21 s22 s23 s24 s25 s26 s27 s28 s29 s30 s31 s32 s33 s34 s35 s36 s37 s38 s39 s40 s41 s42 s43 s44 s45 s46 s47 s48 s49 s50 s51 s52 s53 s54 s55 s56 s57 s58 s59 s60 s61 s62 s63 s64 s65 s66 s67 s68 s69 s70 s71 s72 s73 s74 s75 s76 s77 s78 s79 s80 s81 s82 s83 s84 s85 s86 s87 s88 s89 s90 s91 s92 s93 s94 s95 s96 s97 s98 s99 s100 s101 s102 s103 s104 s105 s106 s107 s108 s109 s110 s111 s112 s113 s114 s115 s116 s117 s118 s119 s120 s121 s122 s123 s124 s125 s126 s127 s128 s129 s130 s131 s132 s133 s134 s135 s136 s137 s138 s139 s140 s141 s142 s143 s144 s145 s146 s147 s148 s149 s150 s151 s152 s153 s154 s155 s156 s157 s158 s159 s160 s161 s162 s163 s164 s165 s166 s167 s168 s169 s170 s171 s172 s173 s174 s175 s176 s177 s178 s179 s180 s181 s182 s183 s184 s185 s186 s187 s188 s189 s190 s191 s192 s193 s194 s195 s196 s197 s198 s199 s200 s201 s202 : Value} {w : World} {r : _} (h : s11M1 s2 s3 s4 s5 s7 s8 s9 w = some r) : s11J1 [s0, s1, s2, s3, s4, s5, s6, s7, s8, s9, s10, s11, s12, s13, s14, s15, s16, s17, s18, s19, s20, s21, s22, s23, s24, s25, s26, s27, s28, s29, s30, s31, s32, s33, s34, s35, s36, s37, s38, s39, s40, s41, s42, s43, s44, s45, s46, s47, s48, s49, s50, s51, s52, s53, s54, s55, s56, s57, s58, s59, s60, s61, s62, s63, s64, s65, s66, s67, s68, s69, s70, s71, s72, s73, s74, s75, s76, s77, s78, s79, s80, s81, s82, s83, s84, s85, s86, s87, s88, s89, s90, s91, s92, s93, s94, s95, s96, s97, s98, s99, s100, s101, s102, s103, s104, s105, s106, s107, s108, s109, s110, s111, s112, s113, s114, s115, s116, s117, s118, s119, s120, s121, s122, s123, s124, s125, s126, s127, s128, s129, s130, s131, s132, s133, s134, s135, s136, s137, s138, s139, s140, s141, s142, s143, s144, s145, s146, s147, s148, s149, s150, s151, s152, s153, s154, s155, s156, s157, s158, s159, s160, s161, s162, s163, s164, s165, s166, s167, s168, s169, s170, s171, s172, s173, s174, s175, s176, s177, s178, s179, s180, s181, s182, s183, s184, s185, s186, s187, s188, s189, s190, s191, s192, s193, s194, s195, s196, s197, s198, s199, s200, s201, s202] [] w = some r :=
  ((s11J1eq s0 s1 s2 s3 s4 s5 s6 s7 s8 s9 s10 s11 s12 s13 s14 s15 s16 s17 s18 s19 s20 s21 s22 s23 s24 s25 s26 s27 s28 s29 s30 s31 s32 s33 s34 s35 s36 s37 s38 s39 s40 s41 s42 s43 s44 s45 s46 s47 s48 s49 s50 s51 s52 s53 s54 s55 s56 s57 s58 s59 s60 s61 s62 s63 s64 s65 s66 s67 s68 s69 s70 s71 s72 s73 s74 s75 s76 s77 s78 s79 s80 s81 s82 s83 s84 s85 s86 s87 s88 s89 s90 s91 s92 s93 s94 s95 s96 s97 s98 s99 s100 s101 s102 s103 s104 s105 s106 s107 s108 s109 s110 s111 s112 s113 s114 s115 s116 s117 s118 s119 s120 s121 s122 s123 s124 s125 s126 s127 s128 s129 s130 s131 s132 s133 s134 s135 s136 s137 s138 s139 s140 s141 s142 s143 s144 s145 s146 s147 s148 s149 s150 s151 s152 s153 s154 s155 s156 s157 s158 s159 s160 s161 s162 s163 s164 s165 s166 s167 s168 s169 s170 s171 s172 s173 s174 s175 s176 s177 s178 s179 s180 s181 s182 s183 s184 s185 s186 s187 s188 s189 s190 s191 s192 s193 s194 s195 s196 s197 s198 s199 s200 s201 s202 w).trans ((Ev.bind_mono fun (v402 : Value) => (Ev.bind_mono fun (v403 : Value) => (Ev.bind_mono fun (r404 : Value × World) => (Ev.bind_mono fun (v405 : Value) => (condK_mono id (Ev.bind_mono fun (r406 : Value × World) => (Ev.bind_mono fun (v407 : Value) => (Ev.bind_mono fun (r408 : Value × World) => (Ev.bind_mono fun (v409 : Value) => (Ev.bind_mono fun (r410 : Value × World) => (s11L2of))))))))))) h))
theorem s11J0eq (s0 s1 s2 s3 s4 s5 s6 s7 s8 s9 s10 s11 s12 s13 s14 s15 s16 s17 s18 s19 s20 s21 s22 s23 s24 s25 s26 s27 s28 s29 s30 s31 s32 s33 s34 s35 s36 s37 s38 s39 s40 s41 s42 s43 s44 s45 s46 s47 s48 s49 s50 s51 s52 s53 s54 s55 s56 s57 s58 s59 s60 s61 s62 s63 s64 s65 s66 s67 s68 s69 s70 s71 s72 s73 s74 s75 s76 s77 s78 s79 s80 s81 s82 s83 s84 s85 s86 s87 s88 s89 s90 s91 s92 s93 s94 s95 s96 s97 s98 s99 s100 s101 s102 s103 s104 s105 s106 s107 s108 s109 s110 s111 s112 s113 s114 s115 s116 s117 s118 s119 s120 s121 s122 s123 s124 s125 s126 s127 s128 s129 s130 s131 s132 s133 s134 s135 s136 s137 s138 s139 s140 s141 s142 s143 s144 s145 s146 s147 s148 s149 s150 s151 s152 s153 s154 s155 s156 s157 s158 s159 s160 s161 s162 s163 s164 s165 s166 s167 s168 s169 s170 s171 s172 s173 s174 s175 s176 s177 s178 s179 s180 s181 s182 s183 s184 s185 s186 s187 s188 s189 s190 s191 s192 s193 s194 s195 s196 s197 s198 s199 s200 s201 s202 : Value) (w : World) : s11J0 [s0, s1, s2, s3, s4, s5, s6, s7, s8, s9, s10, s11, s12, s13, s14, s15, s16, s17, s18, s19, s20, s21, s22, s23, s24, s25, s26, s27, s28, s29, s30, s31, s32, s33, s34, s35, s36, s37, s38, s39, s40, s41, s42, s43, s44, s45, s46, s47, s48, s49, s50, s51, s52, s53, s54, s55, s56, s57, s58, s59, s60, s61, s62, s63, s64, s65, s66, s67, s68, s69, s70, s71, s72, s73, s74, s75, s76, s77, s78, s79, s80, s81, s82, s83, s84, s85, s86, s87, s88, s89, s90, s91, s92, s93, s94, s95, s96, s97, s98, s99, s100, s101, s102, s103, s104, s105, s106, s107, s108, s109, s110, s111, s112, s113, s114, s115, s116, s117, s118, s119, s120, s121, s122, s123, s124, s125, s126, s127, s128, s129, s130, s131, s132, s133, s134, s135, s136, s137, s138, s139, s140, s141, s142, s143, s144, s145, s146, s147, s148, s149, s150, s151, s152, s153, s154, s155, s156, s157, s158, s159, s160, s161, s162, s163, s164, s165, s166, s167, s168, s169, s170, s171, s172, s173, s174, s175, s176, s177, s178, s179, s180, s181, s182, s183, s184, s185, s186, s187, s188, s189, s190, s191, s192, s193, s194, s195, s196, s197, s198, s199, s200, s201, s202] [] w = s11M0raw s0 s1 s2 s3 s4 s5 s6 s7 s8 s9 s10 s11 s12 s13 s14 s15 s16 s17 s18 s19 s20 s21 s22 s23 s24 s25 s26 s27 s28 s29 s30 s31 s32 s33 s34 s35 s36 s37 s38 s39 s40 s41 s42 s43 s44 s45 s46 s47 s48 s49 s50 s51 s52 s53 s54 s55 s56 s57 s58 s59 s60 s61 s62 s63 s64 s65 s66 s67 s68 s69 s70 s71 s72 s73 s74 s75 s76 s77 s78 s79 s80 s81 s82 s83 s84 s85 s86 s87 s88 s89 s90 s91 s92 s93 s94 s95 s96 s97 s98 s99 s100 s101 s102 s103 s104 s105 s106 s107 s108 s109 s110 s111 s112 s113 s114 s115 s116 s117 s118 s119 s120 s121 s122 s123 s124 s125 s126 s127 s128 s129 s130 s131 s132 s133 s134 s135 s136 s137 s138 s139 s140 s141 s142 s143 s144 s145 s146 s147 s148 s149 s150 s151 s152 s153 s154 s155 s156 s157 s158 s159 s160 s161 s162 s163 s164 s165 s166 s167 s168 s169 s170 s171 s172 s173 s174 s175 s176 s177 s178 s179 s180 s181 s182 s183 s184 s185 s186 s187 s188 s189 s190 s191 s192 s193 s194 s195 s196 s197 s198 s199 s200 s201 s202 w := (show s11J0 [s0, s1, s2, s3, s4, s5, s6, s7, s8, s9, s10, s11, s12, s13, s14, s15, s16, s17, s18, s19, s20, s21, s22, s23, s24, s25, s26, s27, s28, s29, s30, s31, s32, s33, s34, s35, s36, s37, s38, s39, s40, s41, s42, s43, s44, s45, s46, s47, s48, s49, s50, s51, s52, s53, s54, s55, s56, s57, s58, s59, s60, s61, s62, s63, s64, s65, s66, s67, s68, s69, s70, s71, s72, s73, s74, s75, s76, s77, s78, s79, s80, s81, s82, s83, s84, s85, s86, s87, s88, s89, s90, s91, s92, s93, s94, s95, s96, s97, s98, s99, s100, s101, s102, s103, s104, s105, s106, s107, s108, s109, s110, s111, s112, s113, s114, s115, s116, s117, s118, s119, s120, s121, s122, s123, s124, s125, s126, s127, s128, s129, s130, s131, s132, s133, s134, s135, s136, s137, s138, s139, s140, s141, s142, s143, s144, s145, s146, s147, s148, s149, s150, s151, s152, s153, s154, s155, s156, s157, s158, s159, s160, s161, s162, s163, s164, s165, s166, s167, s168, s169, s170, s171, s172, s173, s174, s175, s176, s177, s178, s179, s180, s181, s182, s183, s184, s185, s186, s187, s188, s189, s190, s191, s192, s193, s194, s195, s196, s197, s198, s199, s200, s201, s202] [] w = evK Try.prog 11 none (nav [1, 1] (bodyOf Try.f11)) none _ ⟨[s0, s1, s2, s3, s4, s5, s6, s7, s8, s9, s10, s11, s12, s13, s14, s15, s16, s17, s18, s19, s20, s21, s22, s23, s24, s25, s26, s27, s28, s29, s30, s31, s32, s33, s34, s35, s36, s37, s38, s39, s40, s41, s42, s43, s44, s45, s46, s47, s48, s49, s50, s51, s52, s53, s54, s55, s56, s57, s58, s59, s60, s61, s62, s63, s64, s65, s66, s67, s68, s69, s70, s71, s72, s73, s74, s75, s76, s77, s78, s79, s80, s81, s82, s83, s84, s85, s86, s87, s88, s89, s90, s91, s92, s93, s94, s95, s96, s97, s98, s99, s100, s101, s102, s103, s104, s105, s106, s107, s108, s109, s110, s111, s112, s113, s114, s115, s116, s117, s118, s119, s120, s121, s122, s123, s124, s125, s126, s127, s128, s129, s130, s131, s132, s133, s134, s135, s136, s137, s138, s139, s140, s141, s142, s143, s144, s145, s146, s147, s148, s149, s150, s151, s152, s153, s154, s155, s156, s157, s158, s159, s160, s161, s162, s163, s164, s165, s166, s167, s168, s169, s170, s171, s172, s173, s174, s175, s176, s177, s178, s179, s180, s181, s182, s183, s184, s185, s186, s187, s188, s189, s190, s191, s192, s193, s194, s195, s196, s197, s198, s199, s200, s201, s202].toArray, []⟩ w (leaveK Try.prog Try.f11) from by kernel_rfl).trans (by kernel_rfl)
theorem s11J0of {s0 s1 s2 s3 s4 s5 s6 s7 s8 s9 s10 s11 s12 s13 s14 s15 s16 s17 s18 s19 s20 s21 s22 s23 s24 s25 s26 s27 s28 s29 s30 s31 s32 s33 s34 s35 s36 s37 s38 s39 s40 s41 s42 s43 s44 s45 s46 s47 s48 s49 s50 s51 s52 s53 s54 s55 s56 s57 s58 s59 s60 s61 s62 s63 s64 s65 s66 s67 s68 s69 s70 s71 s72 s73 s74 s75 s76 s77 s78 s79 s80 s81 s82 s83 s84 s85 s86 s87 s88 s89 s90 s91 s92 s93 s94 s95 s96 s97 s98 s99 s100 s101 s102 s103 s104 s105 s106 s107 s108 s109 s110 s111 s112 s113 s114 s115 s116 s117 s118 s119 s120 s121 s122 s123 s124 s125 s126 s127 s128 s129 s130 s131 s132 s133 s134 s135 s136 s137 s138 s139 s140 s141 s142 s143 s144 s145 s146 s147 s148 s149 s150 s151 s152 s153 s154 s155 s156 s157 s158 s159 s160 s161 s162 s163 s164 s165 s166 s167 s168 s169 s170 s171 s172 s173 s174 s175 s176 s177 s178 s179 s180 s181 s182 s183 s184 s185 s186 s187 s188 s189 s190 s191 s192 s193 s194 s195 s196 s197 s198 s199 s200 s201 s202 : Value} {w : World} {r : _} (h : s11M0 s2 s3 s4 s5 s6 w = some r) : s11J0 [s0, s1, s2, s3, s4, s5, s6, s7, s8, s9, s10, s11, s12, s13, s14, s15, s16, s17, s18, s19, s20, s21, s22, s23, s24, s25, s26, s27, s28, s29, s30, s31, s32, s33, s34, s35, s36, s37, s38, s39, s40, s41, s42, s43, s44, s45, s46, s47, s48, s49, s50, s51, s52, s53, s54, s55, s56, s57, s58, s59, s60, s61, s62, s63, s64, s65, s66, s67, s68, s69, s70, s71, s72, s73, s74, s75, s76, s77, s78, s79, s80, s81, s82, s83, s84, s85, s86, s87, s88, s89, s90, s91, s92, s93, s94, s95, s96, s97, s98, s99, s100, s101, s102, s103, s104, s105, s106, s107, s108, s109, s110, s111, s112, s113, s114, s115, s116, s117, s118, s119, s120, s121, s122, s123, s124, s125, s126, s127, s128, s129, s130, s131, s132, s133, s134, s135, s136, s137, s138, s139, s140, s141, s142, s143, s144, s145, s146, s147, s148, s149, s150, s151, s152, s153, s154, s155, s156, s157, s158, s159, s160, s161, s162, s163, s164, s165, s166, s167, s168, s169, s170, s171, s172, s173, s174, s175, s176, s177, s178, s179, s180, s181, s182, s183, s184, s185, s186, s187, s188, s189, s190, s191, s192, s193, s194, s195, s196, s197, s198, s199, s200, s201, s202] [] w = some r :=
  ((s11J0eq s0 s1 s2 s3 s4 s5 s6 s7 s8 s9 s10 s11 s12 s13 s14 s15 s16 s17 s18 s19 s20 s21 s22 s23 s24 s25 s26 s27 s28 s29 s30 s31 s32 s33 s34 s35 s36 s37 s38 s39 s40 s41 s42 s43 s44 s45 s46 s47 s48 s49 s50 s51 s52 s53 s54 s55 s56 s57 s58 s59 s60 s61 s62 s63 s64 s65 s66 s67 s68 s69 s70 s71 s72 s73 s74 s75 s76 s77 s78 s79 s80 s81 s82 s83 s84 s85 s86 s87 s88 s89 s90 s91 s92 s93 s94 s95 s96 s97 s98 s99 s100 s101 s102 s103 s104 s105 s106 s107 s108 s109 s110 s111 s112 s113 s114 s115 s116 s117 s118 s119 s120 s121 s122 s123 s124 s125 s126 s127 s128 s129 s130 s131 s132 s133 s134 s135 s136 s137 s138 s139 s140 s141 s142 s143 s144 s145 s146 s147 s148 s149 s150 s151 s152 s153 s154 s155 s156 s157 s158 s159 s160 s161 s162 s163 s164 s165 s166 s167 s168 s169 s170 s171 s172 s173 s174 s175 s176 s177 s178 s179 s180 s181 s182 s183 s184 s185 s186 s187 s188 s189 s190 s191 s192 s193 s194 s195 s196 s197 s198 s199 s200 s201 s202 w).trans ((Ev.bind_mono fun (r375 : Value × World) => (Ev.bind_mono fun (v376 : Value) => (Ev.bind_mono fun (v377 : Value) => (Ev.bind_mono fun (v378 : Value) => (Ev.bind_mono fun (v379 : Value) => (Ev.bind_mono fun (v380 : Value) => (condK_mono id (Ev.bind_mono fun (v387 : Value) => (Ev.bind_mono fun (v388 : Value) => (Ev.bind_mono fun (v389 : Value) => (Ev.bind_mono fun (v390 : Value) => (Ev.bind_mono fun (v391 : Value) => (Ev.bind_mono fun (v392 : Value) => (Ev.bind_mono fun (v393 : Value) => (Ev.bind_mono fun (v394 : Value) => (Ev.bind_mono fun (v395 : Value) => (Ev.bind_mono fun (v396 : Value) => (Ev.bind_mono fun (v397 : Value) => (Ev.bind_mono fun (v398 : Value) => (Ev.bind_mono fun (v399 : Value) => (Ev.bind_mono fun (v400 : Value) => (Ev.bind_mono fun (v401 : Value) => (condK_mono (s11J1of) (s11J1of)))))))))))))))))))))))) h))
theorem s11J0fr (g : Nat → Value) (w : World) : s11K0 .normal (frm 203 g []) w = s11J0 [g 0, g 1, g 2, g 3, g 4, g 5, g 6, g 7, g 8, g 9, g 10, g 11, g 12, g 13, g 14, g 15, g 16, g 17, g 18, g 19, g 20, g 21, g 22, g 23, g 24, g 25, g 26, g 27, g 28, g 29, g 30, g 31, g 32, g 33, g 34, g 35, g 36, g 37, g 38, g 39, g 40, g 41, g 42, g 43, g 44, g 45, g 46, g 47, g 48, g 49, g 50, g 51, g 52, g 53, g 54, g 55, g 56, g 57, g 58, g 59, g 60, g 61, g 62, g 63, g 64, g 65, g 66, g 67, g 68, g 69, g 70, g 71, g 72, g 73, g 74, g 75, g 76, g 77, g 78, g 79, g 80, g 81, g 82, g 83, g 84, g 85, g 86, g 87, g 88, g 89, g 90, g 91, g 92, g 93, g 94, g 95, g 96, g 97, g 98, g 99, g 100, g 101, g 102, g 103, g 104, g 105, g 106, g 107, g 108, g 109, g 110, g 111, g 112, g 113, g 114, g 115, g 116, g 117, g 118, g 119, g 120, g 121, g 122, g 123, g 124, g 125, g 126, g 127, g 128, g 129, g 130, g 131, g 132, g 133, g 134, g 135, g 136, g 137, g 138, g 139, g 140, g 141, g 142, g 143, g 144, g 145, g 146, g 147, g 148, g 149, g 150, g 151, g 152, g 153, g 154, g 155, g 156, g 157, g 158, g 159, g 160, g 161, g 162, g 163, g 164, g 165, g 166, g 167, g 168, g 169, g 170, g 171, g 172, g 173, g 174, g 175, g 176, g 177, g 178, g 179, g 180, g 181, g 182, g 183, g 184, g 185, g 186, g 187, g 188, g 189, g 190, g 191, g 192, g 193, g 194, g 195, g 196, g 197, g 198, g 199, g 200, g 201, g 202] [] w := by kernel_rfl
theorem s11eq (x0 : Value) (w : World) : evK Try.prog 11 none (bodyOf Try.f11) none _ { tmps := (([x0] : List Value) ++ List.replicate (203 - 1) undef).toArray, defers := [] } w (leaveK Try.prog Try.f11) = s11raw x0 w := by kernel_rfl
theorem c11 {x0 : Value} {w : World} {r : Value × World} (h : s11 x0 w = some r) : C Try.prog 11 #[x0] w = some r :=
  C_ev follows_all drawLaw (by kernel_rfl) Try.func11 (by rfl) ((s11eq x0 w).trans (show s11raw x0 w = some r from (Ev.bind_mono fun (r374 : Value × World) => (evDraw_tape (n := 203) (M := fun g w => s11M0 (g 2) (g 3) (g 4) (g 5) (g 6) w) (by kernel_rfl) (by rfl) rfl (fun g w y h => (s11J0fr g w).trans (s11J0of h)))) h))
theorem e11 {x0 : Value} {w : World} {Q : Value × World → Prop} (h : Brings (s11 x0 w) Q) : Brings (Xcall Try.prog (Value.func (Fn.func 11) #[] #[]) #[x0] w) Q :=
  h.call (Xcall_fn Try.func11 (by decide +kernel) (by rfl) _ _ _ w) fun _ h => c11 h

/-! lychgate/lychgatelaw11.play -/
noncomputable def s12K0 : Exit → Act → World → Option (Value × World) := seqK (fun a w => evK Try.prog 12 none (nav [1, 1, 1] (bodyOf Try.f12)) none _ a w (leaveK Try.prog Try.f12)) (leaveK Try.prog Try.f12)
noncomputable def s12K1 : Exit → Act → World → Option (Value × World) := blockK 0 s12K0
noncomputable def s12L0 (s : List Value) (d : List Deferred) (w : World) : Option (Value × World) := loopN Try.prog 12 none (nav [1, 1, 0, 1, 0, 0] (bodyOf Try.f12)) s12K1 s d w
noncomputable def s12B0 : List Value → World → Option (Exit × List Value × World)
  | [x0, x2, x3, x4, x5, x6, x7], w =>
    (Qlen Try.prog #[22] 3 #[x0] w).bind fun v474 =>
    (Qbin Try.prog Go.BinOp.lss 3 x7 v474).bind fun v475 =>
    (guardQ v475 true (Qbin Try.prog Go.BinOp.lss 3 (gv (isB v475 true) x7) (Go.Value.int Go.IntKind.i64 30))).bind fun v476 =>
    (Qpick v475 v476 (Go.Value.bool false)).bind fun v477 =>
    condK v477 (
      (QindexAddr Try.prog 22 x0 x7 w.drew).bind fun v478 =>
      (QfieldAddr Try.prog 41 v478 0).bind fun v479 =>
      (Qload Try.prog 23 v479 w.drew).bind fun v480 =>
      (QindexAddr Try.prog 22 x0 x7 w.drew).bind fun v481 =>
      (QfieldAddr Try.prog 41 v481 1).bind fun v482 =>
      (Qload Try.prog 3 v482 w.drew).bind fun v483 =>
      (QindexAddr Try.prog 22 x0 x7 w.drew).bind fun v484 =>
      (QfieldAddr Try.prog 41 v484 2).bind fun v485 =>
      (Qload Try.prog 34 v485 w.drew).bind fun v486 =>
      (Xcall Try.prog (Value.func (Fn.func 20) #[] #[]) #[x5, v480, v483, v486] w.drew).bind fun r487 =>
      (QindexAddr Try.prog 22 x0 x7 r487.2).bind fun v488 =>
      (QfieldAddr Try.prog 41 v488 0).bind fun v489 =>
      (Qload Try.prog 23 v489 r487.2).bind fun v490 =>
      (QindexAddr Try.prog 22 x0 x7 r487.2).bind fun v491 =>
      (QfieldAddr Try.prog 41 v491 1).bind fun v492 =>
      (Qload Try.prog 3 v492 r487.2).bind fun v493 =>
      (QindexAddr Try.prog 22 x0 x7 r487.2).bind fun v494 =>
      (QfieldAddr Try.prog 41 v494 2).bind fun v495 =>
      (Qload Try.prog 34 v495 r487.2).bind fun v496 =>
      (Xcall Try.prog (Value.func (Fn.func 28) #[] #[]) #[x6, v490, v493, v496] r487.2).bind fun r497 =>
      (Qbin Try.prog Go.BinOp.neq 37 r487.1 r497.1).bind fun v498 =>
      chkK ((QindexAddr Try.prog 22 x0 x7 w.drew = some v488 ∧ QindexAddr Try.prog 22 x0 x7 r487.2 = some v488) ∧ ((Qload Try.prog 23 v489 w.drew = some v490 ∧ Qload Try.prog 23 v489 r487.2 = some v490) ∧ ((QindexAddr Try.prog 22 x0 x7 w.drew = some v491 ∧ QindexAddr Try.prog 22 x0 x7 r487.2 = some v491) ∧ ((Qload Try.prog 3 v492 w.drew = some v493 ∧ Qload Try.prog 3 v492 r487.2 = some v493) ∧ ((QindexAddr Try.prog 22 x0 x7 w.drew = some v494 ∧ QindexAddr Try.prog 22 x0 x7 r487.2 = some v494) ∧ ((Qload Try.prog 34 v495 w.drew = some v496 ∧ Qload Try.prog 34 v495 r487.2 = some v496) ∧ True)))))) (
        condK v498 (
          some (Exit.ret, [x0, x5, x6, (Go.Value.bool false), x5, x6, x7], r497.2)
        ) (
          (Qbin Try.prog Go.BinOp.add 3 x7 (Go.Value.int Go.IntKind.i64 1)).bind fun v499 =>
          some (Exit.normal, [x0, x2, x3, x4, x5, x6, v499], r497.2)
        )
      )
    ) (
      some ((Exit.exit 0), [x0, x2, x3, x4, x5, x6, x7], w)
    )
  | _, _ => none
noncomputable def s12R0 : Exit → List Value → World → Option (Value × World)
  | (Exit.exit 0), [_, _, _, _, x5, x6, _], w =>
    some ((Value.tuple #[x5, x6, (Go.Value.bool true)]), w)
  | Exit.ret, [_, x2, x3, x4, _, _, _], w =>
    some ((Value.tuple #[x2, x3, x4]), w)
  | _, _, _ => none
noncomputable def s12raw (x0 : Value) (w : World) : Option (Value × World) :=
  (Xcall Try.prog (Value.func (Fn.func 19) #[] #[]) #[] w).bind fun r472 =>
  (Xcall Try.prog (Value.func (Fn.func 27) #[] #[]) #[] r472.2).bind fun r473 =>
  s12L0 [x0, undef, (Go.Value.pointer none), (Go.Value.pointer none), (Go.Value.bool false), r472.1, r473.1, (Go.Value.int Go.IntKind.i64 0), r472.1, r473.1, undef, undef, undef, undef, undef, undef, undef, undef, undef, undef, undef, undef, undef, undef, undef, undef, undef, undef, undef, undef, undef, undef, undef, undef, undef, undef, undef, undef, undef, undef, undef, undef, undef, undef, undef, undef, undef, undef, undef, undef, undef, undef, undef, undef, undef, undef, undef, undef, undef] [] r473.2
noncomputable def s12 (x0 : Value) (w : World) : Option (Value × World) :=
  (Xcall Try.prog (Value.func (Fn.func 19) #[] #[]) #[] w).bind fun r472 =>
  (Xcall Try.prog (Value.func (Fn.func 27) #[] #[]) #[] r472.2).bind fun r473 =>
  loopR s12B0 s12R0 [x0, (Go.Value.pointer none), (Go.Value.pointer none), (Go.Value.bool false), r472.1, r473.1, (Go.Value.int Go.IntKind.i64 0)] r473.2
theorem s12B0eq (x0 x2 x3 x4 x5 x6 x7 : Value) (w : World) (g : Nat → Value) (d : List Deferred) : evK Try.prog 12 none (nav [1, 1, 0, 1, 0, 0] (bodyOf Try.f12)) none _ (frm 59 (setL [0, 2, 3, 4, 5, 6, 7] [x0, x2, x3, x4, x5, x6, x7] g) d) w (projK [0, 2, 3, 4, 5, 6, 7]) = s12B0 [x0, x2, x3, x4, x5, x6, x7] w := by kernel_rfl
theorem s12R0x0eq (x0 x2 x3 x4 x5 x6 x7 : Value) (g : Nat → Value) (w : World) : s12K1 (Exit.exit 0) (frm 59 (setL [0, 2, 3, 4, 5, 6, 7] [x0, x2, x3, x4, x5, x6, x7] g) []) w = s12R0 (Exit.exit 0) [x0, x2, x3, x4, x5, x6, x7] w := by kernel_rfl
theorem s12R0ret_eq (x0 x2 x3 x4 x5 x6 x7 : Value) (g : Nat → Value) (w : World) : s12K1 Exit.ret (frm 59 (setL [0, 2, 3, 4, 5, 6, 7] [x0, x2, x3, x4, x5, x6, x7] g) []) w = s12R0 Exit.ret [x0, x2, x3, x4, x5, x6, x7] w := by kernel_rfl
theorem s12R0of : ∀ (e : Exit) (xs : List Value) (w : World) (g : Nat → Value) (y : _), s12R0 e xs w = some y → s12K1 e (frm 59 (setL [0, 2, 3, 4, 5, 6, 7] xs g) []) w = some y := by
  intro e xs w g y h
  unfold s12R0 at h
  split at h
  · exact (s12R0x0eq _ _ _ _ _ _ _ g _).trans h
  · exact (s12R0ret_eq _ _ _ _ _ _ _ g _).trans h
  · cases h
theorem s12L0of {s0 s1 s2 s3 s4 s5 s6 s7 s8 s9 s10 s11 s12 s13 s14 s15 s16 s17 s18 s19 s20 s21 s22 s23 s24 s25 s26 s27 s28 s29 s30 s31 s32 s33 s34 s35 s36 s37 s38 s39 s40 s41 s42 s43 s44 s45 s46 s47 s48 s49 s50 s51 s52 s53 s54 s55 s56 s57 s58 : Value} {w : World} {r : _} (h : loopR s12B0 s12R0 [s0, s2, s3, s4, s5, s6, s7] w = some r) : s12L0 [s0, s1, s2, s3, s4, s5, s6, s7, s8, s9, s10, s11, s12, s13, s14, s15, s16, s17, s18, s19, s20, s21, s22, s23, s24, s25, s26, s27, s28, s29, s30, s31, s32, s33, s34, s35, s36, s37, s38, s39, s40, s41, s42, s43, s44, s45, s46, s47, s48, s49, s50, s51, s52, s53, s54, s55, s56, s57, s58] [] w = some r :=
  loopN_of (B := s12B0) (R := s12R0) (n := 59) (live := [0, 2, 3, 4, 5, 6, 7]) (fun xs w g y hl h => match xs, hl, h with | [x0, x2, x3, x4, x5, x6, x7], _, h => (s12B0eq x0 x2 x3 x4 x5 x6 x7 w g []).trans h) (by kernel_rfl) (s12R0of) (fun i => ([s0, s1, s2, s3, s4, s5, s6, s7, s8, s9, s10, s11, s12, s13, s14, s15, s16, s17, s18, s19, s20, s21, s22, s23, s24, s25, s26, s27, s28, s29, s30, s31, s32, s33, s34, s35, s36, s37, s38, s39, s40, s41, s42, s43, s44, s45, s46, s47, s48, s49, s50, s51, s52, s53, s54, s55, s56, s57, s58] : List Value).getD i undef) (by kernel_rfl) rfl h
theorem s12eq (x0 : Value) (w : World) : evK Try.prog 12 none (bodyOf Try.f12) none _ { tmps := (([x0] : List Value) ++ List.replicate (59 - 1) undef).toArray, defers := [] } w (leaveK Try.prog Try.f12) = s12raw x0 w := by kernel_rfl
theorem c12 {x0 : Value} {w : World} {r : Value × World} (h : s12 x0 w = some r) : C Try.prog 12 #[x0] w = some r :=
  C_ev follows_all drawLaw (by kernel_rfl) Try.func12 (by rfl) ((s12eq x0 w).trans (show s12raw x0 w = some r from (Ev.bind_mono fun (r472 : Value × World) => (Ev.bind_mono fun (r473 : Value × World) => (s12L0of))) h))
theorem e12 {x0 : Value} {w : World} {Q : Value × World → Prop} (h : Brings (s12 x0 w) Q) : Brings (Xcall Try.prog (Value.func (Fn.func 12) #[] #[]) #[x0] w) Q :=
  h.call (Xcall_fn Try.func12 (by decide +kernel) (by rfl) _ _ _ w) fun _ h => c12 h

/-! lychgate/lychgatelaw11.live -/
noncomputable def s13 (w : World) : Option (Value × World) :=
  (Xcall Try.prog (Value.func (Fn.func 19) #[] #[]) #[] w).bind fun r500 =>
  (XmakeSlice Try.prog 34 (Go.Value.int Go.IntKind.i64 12) (Go.Value.int Go.IntKind.i64 12) r500.2).bind fun r501 =>
  (Xcall Try.prog (Value.func (Fn.func 20) #[] #[]) #[r500.1, (Go.Value.int Go.IntKind.u32 100), (Go.Value.int Go.IntKind.i64 10), r501.1] r501.2).bind fun r502 =>
  (Qbin Try.prog Go.BinOp.eql 37 r502.1 (Go.Value.int Go.IntKind.i64 0)).bind fun v503 =>
  (guardX v503 true r502.2 (Xcall Try.prog (Value.func (Fn.func 17) #[] #[]) #[(gv (isB v503 true) r500.1), (Go.Value.int Go.IntKind.u32 100)] r502.2)).bind fun r504 =>
  (guardQ v503 true (Qbin Try.prog Go.BinOp.eql 23 r504.1 (Go.Value.int Go.IntKind.u32 100))).bind fun v505 =>
  (Qpick v503 v505 (Go.Value.bool false)).bind fun v506 =>
  (guardX v506 true r504.2 (Xcall Try.prog (Value.func (Fn.func 17) #[] #[]) #[(gv (isB v506 true) r500.1), (Go.Value.int Go.IntKind.u32 105)] r504.2)).bind fun r507 =>
  (guardQ v506 true (Qbin Try.prog Go.BinOp.eql 23 r507.1 (Go.Value.int Go.IntKind.u32 100))).bind fun v508 =>
  (Qpick v506 v508 (Go.Value.bool false)).bind fun v509 =>
  (guardX v509 true r507.2 (Xcall Try.prog (Value.func (Fn.func 17) #[] #[]) #[(gv (isB v509 true) r500.1), (Go.Value.int Go.IntKind.u32 110)] r507.2)).bind fun r510 =>
  (guardQ v509 true (Qbin Try.prog Go.BinOp.eql 23 r510.1 (Go.Value.int Go.IntKind.u32 112))).bind fun v511 =>
  (Qpick v509 v511 (Go.Value.bool false)).bind fun v512 =>
  (guardX v512 true r510.2 (Xcall Try.prog (Value.func (Fn.func 16) #[] #[]) #[(gv (isB v512 true) r500.1), (Go.Value.int Go.IntKind.u32 105)] r510.2)).bind fun r513 =>
  (guardQ v512 true (Qbin Try.prog Go.BinOp.eql 23 r513.1 (Go.Value.int Go.IntKind.u32 100))).bind fun v514 =>
  (Qpick v512 v514 (Go.Value.bool false)).bind fun v515 =>
  (guardX v515 true r513.2 (Xcall Try.prog (Value.func (Fn.func 16) #[] #[]) #[(gv (isB v515 true) r500.1), (Go.Value.int Go.IntKind.u32 112)] r513.2)).bind fun r516 =>
  (guardQ v515 true (Qbin Try.prog Go.BinOp.eql 23 r516.1 (Go.Value.int Go.IntKind.u32 110))).bind fun v517 =>
  (Qpick v515 v517 (Go.Value.bool false)).bind fun v518 =>
  some (v518, r516.2)
theorem s13eq (w : World) : evK Try.prog 13 none (bodyOf Try.f13) none _ { tmps := (([] : List Value) ++ List.replicate (34 - 0) undef).toArray, defers := [] } w (leaveK Try.prog Try.f13) = s13  w := by kernel_rfl
theorem c13 {w : World} {r : Value × World} (h : s13  w = some r) : C Try.prog 13 #[] w = some r :=
  C_ev follows_all drawLaw (by kernel_rfl) Try.func13 (by rfl) ((s13eq  w).trans h)
theorem e13 {w : World} {Q : Value × World → Prop} (h : Brings (s13  w) Q) : Brings (Xcall Try.prog (Value.func (Fn.func 13) #[] #[]) #[] w) Q :=
  h.call (Xcall_fn Try.func13 (by decide +kernel) (by rfl) _ _ _ w) fun _ h => c13 h

/-! lychgate/lychgatelaw11.near -/
noncomputable def s14K0 : Exit → Act → World → Option (Value × World) := seqK (fun a w => evK Try.prog 14 none (nav [1, 1, 1, 1, 1] (bodyOf Try.f14)) none _ a w (leaveK Try.prog Try.f14)) (leaveK Try.prog Try.f14)
noncomputable def s14K1 : Exit → Act → World → Option (Value × World) := blockK 0 s14K0
noncomputable def s14L0 (s : List Value) (d : List Deferred) (w : World) : Option (Value × World) := loopN Try.prog 14 none (nav [1, 1, 1, 1, 0, 1, 0, 0] (bodyOf Try.f14)) s14K1 s d w
noncomputable def s14K2 : Exit → Act → World → Option (Exit × List Value × World) := seqK (fun a w => evK Try.prog 14 none (nav [1, 1, 1, 1, 0, 1, 0, 0, 1, 1] (bodyOf Try.f14)) none _ a w (projK [0, 1, 4, 5, 6, 7, 8])) (projK [0, 1, 4, 5, 6, 7, 8])
noncomputable def s14K3 : Exit → Act → World → Option (Exit × List Value × World) := blockK 1 s14K2
noncomputable def s14K4 : Exit → Act → World → Option (Exit × List Value × World) := seqK (fun a w => evK Try.prog 14 none (nav [1, 1, 1, 1, 0, 1, 0, 0, 1, 0, 0, 1, 1] (bodyOf Try.f14)) none _ a w s14K3) s14K3
noncomputable def s14J1 (s : List Value) (d : List Deferred) (w : World) : Option (Exit × List Value × World) := s14K4 .normal ⟨s.toArray, d⟩ w
noncomputable def s14M1 (s0 s1 s4 s5 s6 s7 s8 : Value) (w : World) : Option (Exit × List Value × World) :=
  (QindexAddr Try.prog 22 s0 s8 w).bind fun v544 =>
  (QfieldAddr Try.prog 41 v544 0).bind fun v545 =>
  (Qload Try.prog 23 v545 w).bind fun v546 =>
  (Xcall Try.prog (Value.func (Fn.func 18) #[] #[]) #[v546, s6] w).bind fun r547 =>
  (Qbin Try.prog Go.BinOp.lss 3 r547.1 (Go.Value.int Go.IntKind.i64 0)).bind fun v548 =>
  (guardQ v548 false (Qbin Try.prog Go.BinOp.gtr 3 (gv (isB v548 false) r547.1) (Go.Value.int Go.IntKind.i64 536870912))).bind fun v549 =>
  (Qpick v548 (Go.Value.bool true) v549).bind fun v550 =>
  condK v550 (
    some (Exit.ret, [s0, s1, (Go.Value.bool false), s5, s6, s7, s8], r547.2)
  ) (
    (Qbin Try.prog Go.BinOp.add 3 s8 (Go.Value.int Go.IntKind.i64 1)).bind fun v551 =>
    some (Exit.normal, [s0, s1, s4, s5, s6, s7, v551], r547.2)
  )
noncomputable def s14B0raw (g : Nat → Value) (d : List Deferred) : List Value → World → Option (Exit × List Value × World)
  | [x0, x1, x4, x5, x6, x7, x8], w =>
    (Qlen Try.prog #[22] 3 #[x0] w).bind fun v520 =>
    (Qbin Try.prog Go.BinOp.lss 3 x8 v520).bind fun v521 =>
    (guardQ v521 true (Qbin Try.prog Go.BinOp.lss 3 (gv (isB v521 true) x8) (Go.Value.int Go.IntKind.i64 30))).bind fun v522 =>
    (Qpick v521 v522 (Go.Value.bool false)).bind fun v523 =>
    condK v523 (
      (QindexAddr Try.prog 22 x0 x8 w.drew).bind fun v524 =>
      (QfieldAddr Try.prog 41 v524 0).bind fun v525 =>
      (Qload Try.prog 23 v525 w.drew).bind fun v526 =>
      (QindexAddr Try.prog 22 x0 x8 w.drew).bind fun v527 =>
      (QfieldAddr Try.prog 41 v527 1).bind fun v528 =>
      (Qload Try.prog 3 v528 w.drew).bind fun v529 =>
      (QindexAddr Try.prog 22 x0 x8 w.drew).bind fun v530 =>
      (QfieldAddr Try.prog 41 v530 2).bind fun v531 =>
      (Qload Try.prog 34 v531 w.drew).bind fun v532 =>
      (Xcall Try.prog (Value.func (Fn.func 28) #[] #[]) #[x7, v526, v529, v532] w.drew).bind fun r533 =>
      (Qbin Try.prog Go.BinOp.neq 37 r533.1 (Go.Value.int Go.IntKind.i64 0)).bind fun v534 =>
      chkK True (
        condK v534 (
          (Qbin Try.prog Go.BinOp.add 3 x8 (Go.Value.int Go.IntKind.i64 1)).bind fun v535 =>
          some (Exit.normal, [x0, x1, x4, x5, x6, x7, v535], r533.2)
        ) (
          condK x5 (
            (QindexAddr Try.prog 22 x0 x8 r533.2).bind fun v536 =>
            (QfieldAddr Try.prog 41 v536 0).bind fun v537 =>
            (Qload Try.prog 23 v537 r533.2).bind fun v538 =>
            s14J1 [x0, x1, (g 2), (g 3), x4, (Go.Value.bool false), v538, x7, x8, (g 9), (g 10), (g 11), x8, x0, v520, v521, v521, (gv (isB v521 true) x8), v522, v523, (g 20), (g 21), x7, x0, x8, v524, v525, v526, x0, x8, v527, v528, v529, x0, x8, v530, v531, v532, r533.1, v534, x5, x0, x8, v536, v537, v538, (g 46), (g 47), (g 48), (g 49), (g 50), (g 51), (g 52), (g 53), (g 54), (g 55), (g 56), (g 57), (g 58), (g 59), (g 60), (g 61), (g 62), (g 63), (g 64), (g 65), (g 66), (g 67), (g 68), (g 69), (g 70)] d r533.2
          ) (
            s14J1 [x0, x1, (g 2), (g 3), x4, x5, x6, x7, x8, (g 9), (g 10), (g 11), x8, x0, v520, v521, v521, (gv (isB v521 true) x8), v522, v523, (g 20), (g 21), x7, x0, x8, v524, v525, v526, x0, x8, v527, v528, v529, x0, x8, v530, v531, v532, r533.1, v534, x5, (g 41), (g 42), (g 43), (g 44), (g 45), (g 46), (g 47), (g 48), (g 49), (g 50), (g 51), (g 52), (g 53), (g 54), (g 55), (g 56), (g 57), (g 58), (g 59), (g 60), (g 61), (g 62), (g 63), (g 64), (g 65), (g 66), (g 67), (g 68), (g 69), (g 70)] d r533.2
          )
        )
      )
    ) (
      some ((Exit.exit 0), [x0, x1, x4, x5, x6, x7, x8], w)
    )
  | _, _ => none
noncomputable def s14B0 : List Value → World → Option (Exit × List Value × World)
  | [x0, x1, x4, x5, x6, x7, x8], w =>
    (Qlen Try.prog #[22] 3 #[x0] w).bind fun v520 =>
    (Qbin Try.prog Go.BinOp.lss 3 x8 v520).bind fun v521 =>
    (guardQ v521 true (Qbin Try.prog Go.BinOp.lss 3 (gv (isB v521 true) x8) (Go.Value.int Go.IntKind.i64 30))).bind fun v522 =>
    (Qpick v521 v522 (Go.Value.bool false)).bind fun v523 =>
    condK v523 (
      (QindexAddr Try.prog 22 x0 x8 w.drew).bind fun v524 =>
      (QfieldAddr Try.prog 41 v524 0).bind fun v525 =>
      (Qload Try.prog 23 v525 w.drew).bind fun v526 =>
      (QindexAddr Try.prog 22 x0 x8 w.drew).bind fun v527 =>
      (QfieldAddr Try.prog 41 v527 1).bind fun v528 =>
      (Qload Try.prog 3 v528 w.drew).bind fun v529 =>
      (QindexAddr Try.prog 22 x0 x8 w.drew).bind fun v530 =>
      (QfieldAddr Try.prog 41 v530 2).bind fun v531 =>
      (Qload Try.prog 34 v531 w.drew).bind fun v532 =>
      (Xcall Try.prog (Value.func (Fn.func 28) #[] #[]) #[x7, v526, v529, v532] w.drew).bind fun r533 =>
      (Qbin Try.prog Go.BinOp.neq 37 r533.1 (Go.Value.int Go.IntKind.i64 0)).bind fun v534 =>
      chkK True (
        condK v534 (
          (Qbin Try.prog Go.BinOp.add 3 x8 (Go.Value.int Go.IntKind.i64 1)).bind fun v535 =>
          some (Exit.normal, [x0, x1, x4, x5, x6, x7, v535], r533.2)
        ) (
          condK x5 (
            (QindexAddr Try.prog 22 x0 x8 r533.2).bind fun v536 =>
            (QfieldAddr Try.prog 41 v536 0).bind fun v537 =>
            (Qload Try.prog 23 v537 r533.2).bind fun v538 =>
            s14M1 x0 x1 x4 (Go.Value.bool false) v538 x7 x8 r533.2
          ) (
            s14M1 x0 x1 x4 x5 x6 x7 x8 r533.2
          )
        )
      )
    ) (
      some ((Exit.exit 0), [x0, x1, x4, x5, x6, x7, x8], w)
    )
  | _, _ => none
noncomputable def s14R0 : Exit → List Value → World → Option (Value × World)
  | (Exit.exit 0), [_, x1, _, x5, x6, _, _], w =>
    (Xcall Try.prog (Value.func (Fn.func 18) #[] #[]) #[x1, x6] w).bind fun r539 =>
    (guardQ x5 false (Qbin Try.prog Go.BinOp.gtr 3 (gv (isB x5 false) r539.1) (Go.Value.int Go.IntKind.i64 (-1073741824)))).bind fun v540 =>
    (guardQ (gv (isB x5 false) v540) true (Qbin Try.prog Go.BinOp.lss 3 (gv (isB (gv (isB x5 false) v540) true) r539.1) (Go.Value.int Go.IntKind.i64 1073741824))).bind fun v541 =>
    (guardQ x5 false (Qpick (gv (isB x5 false) v540) v541 (Go.Value.bool false))).bind fun v542 =>
    (Qpick x5 (Go.Value.bool true) v542).bind fun v543 =>
    some (v543, r539.2)
  | Exit.ret, [_, _, x4, _, _, _, _], w =>
    some (x4, w)
  | _, _, _ => none
noncomputable def s14raw (x0 x1 : Value) (w : World) : Option (Value × World) :=
  (Xcall Try.prog (Value.func (Fn.func 27) #[] #[]) #[] w).bind fun r519 =>
  s14L0 [x0, x1, undef, undef, (Go.Value.bool false), (Go.Value.bool true), (Go.Value.int Go.IntKind.u32 0), r519.1, (Go.Value.int Go.IntKind.i64 0), undef, undef, r519.1, undef, undef, undef, undef, undef, undef, undef, undef, undef, undef, undef, undef, undef, undef, undef, undef, undef, undef, undef, undef, undef, undef, undef, undef, undef, undef, undef, undef, undef, undef, undef, undef, undef, undef, undef, undef, undef, undef, undef, undef, undef, undef, undef, undef, undef, undef, undef, undef, undef, undef, undef, undef, undef, undef, undef, undef, undef, undef, undef] [] r519.2
noncomputable def s14 (x0 x1 : Value) (w : World) : Option (Value × World) :=
  (Xcall Try.prog (Value.func (Fn.func 27) #[] #[]) #[] w).bind fun r519 =>
  loopR s14B0 s14R0 [x0, x1, (Go.Value.bool false), (Go.Value.bool true), (Go.Value.int Go.IntKind.u32 0), r519.1, (Go.Value.int Go.IntKind.i64 0)] r519.2
theorem s14J1eq (s0 s1 s2 s3 s4 s5 s6 s7 s8 s9 s10 s11 s12 s13 s14 s15 s16 s17 s18 s19 s20 s21 s22 s23 s24 s25 s26 s27 s28 s29 s30 s31 s32 s33 s34 s35 s36 s37 s38 s39 s40 s41 s42 s43 s44 s45 s46 s47 s48 s49 s50 s51 s52 s53 s54 s55 s56 s57 s58 s59 s60 s61 s62 s63 s64 s65 s66 s67 s68 s69 s70 : Value) (w : World) : s14J1 [s0, s1, s2, s3, s4, s5, s6, s7, s8, s9, s10, s11, s12, s13, s14, s15, s16, s17, s18, s19, s20, s21, s22, s23, s24, s25, s26, s27, s28, s29, s30, s31, s32, s33, s34, s35, s36, s37, s38, s39, s40, s41, s42, s43, s44, s45, s46, s47, s48, s49, s50, s51, s52, s53, s54, s55, s56, s57, s58, s59, s60, s61, s62, s63, s64, s65, s66, s67, s68, s69, s70] [] w = s14M1 s0 s1 s4 s5 s6 s7 s8 w := (show s14J1 [s0, s1, s2, s3, s4, s5, s6, s7, s8, s9, s10, s11, s12, s13, s14, s15, s16, s17, s18, s19, s20, s21, s22, s23, s24, s25, s26, s27, s28, s29, s30, s31, s32, s33, s34, s35, s36, s37, s38, s39, s40, s41, s42, s43, s44, s45, s46, s47, s48, s49, s50, s51, s52, s53, s54, s55, s56, s57, s58, s59, s60, s61, s62, s63, s64, s65, s66, s67, s68, s69, s70] [] w = evK Try.prog 14 none (nav [1, 1, 1, 1, 0, 1, 0, 0, 1, 0, 0, 1, 1] (bodyOf Try.f14)) none _ ⟨[s0, s1, s2, s3, s4, s5, s6, s7, s8, s9, s10, s11, s12, s13, s14, s15, s16, s17, s18, s19, s20, s21, s22, s23, s24, s25, s26, s27, s28, s29, s30, s31, s32, s33, s34, s35, s36, s37, s38, s39, s40, s41, s42, s43, s44, s45, s46, s47, s48, s49, s50, s51, s52, s53, s54, s55, s56, s57, s58, s59, s60, s61, s62, s63, s64, s65, s66, s67, s68, s69, s70].toArray, []⟩ w s14K3 from by kernel_rfl).trans (by kernel_rfl)
theorem s14J1of {s0 s1 s2 s3 s4 s5 s6 s7 s8 s9 s10 s11 s12 s13 s14 s15 s16 s17 s18 s19 s20 s21 s22 s23 s24 s25 s26 s27 s28 s29 s30 s31 s32 s33 s34 s35 s36 s37 s38 s39 s40 s41 s42 s43 s44 s45 s46 s47 s48 s49 s50 s51 s52 s53 s54 s55 s56 s57 s58 s59 s60 s61 s62 s63 s64 s65 s66 s67 s68 s69 s70 : Value} {w : World} {r : _} (h : s14M1 s0 s1 s4 s5 s6 s7 s8 w = some r) : s14J1 [s0, s1, s2, s3, s4, s5, s6, s7, s8, s9, s10, s11, s12, s13, s14, s15, s16, s17, s18, s19, s20, s21, s22, s23, s24, s25, s26, s27, s28, s29, s30, s31, s32, s33, s34, s35, s36, s37, s38, s39, s40, s41, s42, s43, s44, s45, s46, s47, s48, s49, s50, s51, s52, s53, s54, s55, s56, s57, s58, s59, s60, s61, s62, s63, s64, s65, s66, s67, s68, s69, s70] [] w = some r :=
  ((s14J1eq s0 s1 s2 s3 s4 s5 s6 s7 s8 s9 s10 s11 s12 s13 s14 s15 s16 s17 s18 s19 s20 s21 s22 s23 s24 s25 s26 s27 s28 s29 s30 s31 s32 s33 s34 s35 s36 s37 s38 s39 s40 s41 s42 s43 s44 s45 s46 s47 s48 s49 s50 s51 s52 s53 s54 s55 s56 s57 s58 s59 s60 s61 s62 s63 s64 s65 s66 s67 s68 s69 s70 w).trans h)
theorem s14B0eq (x0 x1 x4 x5 x6 x7 x8 : Value) (w : World) (g : Nat → Value) (d : List Deferred) : evK Try.prog 14 none (nav [1, 1, 1, 1, 0, 1, 0, 0] (bodyOf Try.f14)) none _ (frm 71 (setL [0, 1, 4, 5, 6, 7, 8] [x0, x1, x4, x5, x6, x7, x8] g) d) w (projK [0, 1, 4, 5, 6, 7, 8]) = s14B0raw g d [x0, x1, x4, x5, x6, x7, x8] w := by kernel_rfl
theorem s14R0x0eq (x0 x1 x4 x5 x6 x7 x8 : Value) (g : Nat → Value) (w : World) : s14K1 (Exit.exit 0) (frm 71 (setL [0, 1, 4, 5, 6, 7, 8] [x0, x1, x4, x5, x6, x7, x8] g) []) w = s14R0 (Exit.exit 0) [x0, x1, x4, x5, x6, x7, x8] w := by kernel_rfl
theorem s14R0ret_eq (x0 x1 x4 x5 x6 x7 x8 : Value) (g : Nat → Value) (w : World) : s14K1 Exit.ret (frm 71 (setL [0, 1, 4, 5, 6, 7, 8] [x0, x1, x4, x5, x6, x7, x8] g) []) w = s14R0 Exit.ret [x0, x1, x4, x5, x6, x7, x8] w := by kernel_rfl
theorem s14R0of : ∀ (e : Exit) (xs : List Value) (w : World) (g : Nat → Value) (y : _), s14R0 e xs w = some y → s14K1 e (frm 71 (setL [0, 1, 4, 5, 6, 7, 8] xs g) []) w = some y := by
  intro e xs w g y h
  unfold s14R0 at h
  split at h
  · exact (s14R0x0eq _ _ _ _ _ _ _ g _).trans h
  · exact (s14R0ret_eq _ _ _ _ _ _ _ g _).trans h
  · cases h
theorem s14L0of {s0 s1 s2 s3 s4 s5 s6 s7 s8 s9 s10 s11 s12 s13 s14 s15 s16 s17 s18 s19 s20 s21 s22 s23 s24 s25 s26 s27 s28 s29 s30 s31 s32 s33 s34 s35 s36 s37 s38 s39 s40 s41 s42 s43 s44 s45 s46 s47 s48 s49 s50 s51 s52 s53 s54 s55 s56 s57 s58 s59 s60 s61 s62 s63 s64 s65 s66 s67 s68 s69 s70 : Value} {w : World} {r : _} (h : loopR s14B0 s14R0 [s0, s1, s4, s5, s6, s7, s8] w = some r) : s14L0 [s0, s1, s2, s3, s4, s5, s6, s7, s8, s9, s10, s11, s12, s13, s14, s15, s16, s17, s18, s19, s20, s21, s22, s23, s24, s25, s26, s27, s28, s29, s30, s31, s32, s33, s34, s35, s36, s37, s38, s39, s40, s41, s42, s43, s44, s45, s46, s47, s48, s49, s50, s51, s52, s53, s54, s55, s56, s57, s58, s59, s60, s61, s62, s63, s64, s65, s66, s67, s68, s69, s70] [] w = some r :=
  loopN_of (B := s14B0) (R := s14R0) (n := 71) (live := [0, 1, 4, 5, 6, 7, 8]) (fun xs w g y hl h => match xs, hl, h with | [x0, x1, x4, x5, x6, x7, x8], _, h => (s14B0eq x0 x1 x4 x5 x6 x7 x8 w g []).trans (show s14B0raw g [] [x0, x1, x4, x5, x6, x7, x8] w = some y from (Ev.bind_mono fun (v520 : Value) => (Ev.bind_mono fun (v521 : Value) => (Ev.bind_mono fun (v522 : Value) => (Ev.bind_mono fun (v523 : Value) => (condK_mono (Ev.bind_mono fun (v524 : Value) => (Ev.bind_mono fun (v525 : Value) => (Ev.bind_mono fun (v526 : Value) => (Ev.bind_mono fun (v527 : Value) => (Ev.bind_mono fun (v528 : Value) => (Ev.bind_mono fun (v529 : Value) => (Ev.bind_mono fun (v530 : Value) => (Ev.bind_mono fun (v531 : Value) => (Ev.bind_mono fun (v532 : Value) => (Ev.bind_mono fun (r533 : Value × World) => (Ev.bind_mono fun (v534 : Value) => (chkK_mono (condK_mono id (condK_mono (Ev.bind_mono fun (v536 : Value) => (Ev.bind_mono fun (v537 : Value) => (Ev.bind_mono fun (v538 : Value) => (s14J1of)))) (s14J1of))))))))))))))) id))))) h)) (by kernel_rfl) (s14R0of) (fun i => ([s0, s1, s2, s3, s4, s5, s6, s7, s8, s9, s10, s11, s12, s13, s14, s15, s16, s17, s18, s19, s20, s21, s22, s23, s24, s25, s26, s27, s28, s29, s30, s31, s32, s33, s34, s35, s36, s37, s38, s39, s40, s41, s42, s43, s44, s45, s46, s47, s48, s49, s50, s51, s52, s53, s54, s55, s56, s57, s58, s59, s60, s61, s62, s63, s64, s65, s66, s67, s68, s69, s70] : List Value).getD i undef) (by kernel_rfl) rfl h
theorem s14eq (x0 x1 : Value) (w : World) : evK Try.prog 14 none (bodyOf Try.f14) none _ { tmps := (([x0, x1] : List Value) ++ List.replicate (71 - 2) undef).toArray, defers := [] } w (leaveK Try.prog Try.f14) = s14raw x0 x1 w := by kernel_rfl
theorem c14 {x0 x1 : Value} {w : World} {r : Value × World} (h : s14 x0 x1 w = some r) : C Try.prog 14 #[x0, x1] w = some r :=
  C_ev follows_all drawLaw (by kernel_rfl) Try.func14 (by rfl) ((s14eq x0 x1 w).trans (show s14raw x0 x1 w = some r from (Ev.bind_mono fun (r519 : Value × World) => (s14L0of)) h))
theorem e14 {x0 x1 : Value} {w : World} {Q : Value × World → Prop} (h : Brings (s14 x0 x1 w) Q) : Brings (Xcall Try.prog (Value.func (Fn.func 14) #[] #[]) #[x0, x1] w) Q :=
  h.call (Xcall_fn Try.func14 (by decide +kernel) (by rfl) _ _ _ w) fun _ h => c14 h

/-! lychgate/lychgatelaw11.inside -/
noncomputable def s15K0 : Exit → Act → World → Option (Value × World) := seqK (fun a w => evK Try.prog 15 none (nav [1, 1, 1] (bodyOf Try.f15)) none _ a w (leaveK Try.prog Try.f15)) (leaveK Try.prog Try.f15)
noncomputable def s15K1 : Exit → Act → World → Option (Value × World) := blockK 0 s15K0
noncomputable def s15L0 (s : List Value) (d : List Deferred) (w : World) : Option (Value × World) := loopN Try.prog 15 none (nav [1, 1, 0, 1, 0, 0] (bodyOf Try.f15)) s15K1 s d w
noncomputable def s15B0 : List Value → World → Option (Exit × List Value × World)
  | [x0, x1, x4, x5, x6], w =>
    (Qlen Try.prog #[22] 3 #[x0] w).bind fun v553 =>
    (Qbin Try.prog Go.BinOp.lss 3 x6 v553).bind fun v554 =>
    (guardQ v554 true (Qbin Try.prog Go.BinOp.lss 3 (gv (isB v554 true) x6) (Go.Value.int Go.IntKind.i64 30))).bind fun v555 =>
    (Qpick v554 v555 (Go.Value.bool false)).bind fun v556 =>
    condK v556 (
      (QindexAddr Try.prog 22 x0 x6 w.drew).bind fun v557 =>
      (QfieldAddr Try.prog 41 v557 0).bind fun v558 =>
      (Qload Try.prog 23 v558 w.drew).bind fun v559 =>
      (QindexAddr Try.prog 22 x0 x6 w.drew).bind fun v560 =>
      (QfieldAddr Try.prog 41 v560 1).bind fun v561 =>
      (Qload Try.prog 3 v561 w.drew).bind fun v562 =>
      (QindexAddr Try.prog 22 x0 x6 w.drew).bind fun v563 =>
      (QfieldAddr Try.prog 41 v563 2).bind fun v564 =>
      (Qload Try.prog 34 v564 w.drew).bind fun v565 =>
      (Xcall Try.prog (Value.func (Fn.func 28) #[] #[]) #[x5, v559, v562, v565] w.drew).bind fun r566 =>
      (Qbin Try.prog Go.BinOp.neq 37 r566.1 (Go.Value.int Go.IntKind.i64 0)).bind fun v567 =>
      chkK True (
        condK v567 (
          (Qbin Try.prog Go.BinOp.add 3 x6 (Go.Value.int Go.IntKind.i64 1)).bind fun v568 =>
          some (Exit.normal, [x0, x1, x4, x5, v568], r566.2)
        ) (
          (QindexAddr Try.prog 22 x0 x6 r566.2).bind fun v569 =>
          (QfieldAddr Try.prog 41 v569 0).bind fun v570 =>
          (Qload Try.prog 23 v570 r566.2).bind fun v571 =>
          (Xcall Try.prog (Value.func (Fn.func 18) #[] #[]) #[x1, v571] r566.2).bind fun r572 =>
          (Qbin Try.prog Go.BinOp.gtr 3 r572.1 (Go.Value.int Go.IntKind.i64 0)).bind fun v573 =>
          (guardQ v573 true (QindexAddr Try.prog 22 (gv (isB v573 true) x0) (gv (isB v573 true) x6) r572.2)).bind fun v574 =>
          (guardQ v573 true (QfieldAddr Try.prog 41 v574 1)).bind fun v575 =>
          (guardQ v573 true (Qload Try.prog 3 v575 r572.2)).bind fun v576 =>
          (guardQ v573 true (Qbin Try.prog Go.BinOp.lss 3 (gv (isB v573 true) r572.1) v576)).bind fun v577 =>
          (Qpick v573 v577 (Go.Value.bool false)).bind fun v578 =>
          condK v578 (
            some (Exit.ret, [x0, x1, (Go.Value.bool true), x5, x6], r572.2)
          ) (
            (Qbin Try.prog Go.BinOp.add 3 x6 (Go.Value.int Go.IntKind.i64 1)).bind fun v579 =>
            some (Exit.normal, [x0, x1, x4, x5, v579], r572.2)
          )
        )
      )
    ) (
      some ((Exit.exit 0), [x0, x1, x4, x5, x6], w)
    )
  | _, _ => none
noncomputable def s15R0 : Exit → List Value → World → Option (Value × World)
  | (Exit.exit 0), [_, _, _, _, _], w =>
    some ((Go.Value.bool false), w)
  | Exit.ret, [_, _, x4, _, _], w =>
    some (x4, w)
  | _, _, _ => none
noncomputable def s15raw (x0 x1 : Value) (w : World) : Option (Value × World) :=
  (Xcall Try.prog (Value.func (Fn.func 27) #[] #[]) #[] w).bind fun r552 =>
  s15L0 [x0, x1, undef, undef, (Go.Value.bool false), r552.1, (Go.Value.int Go.IntKind.i64 0), undef, r552.1, undef, undef, undef, undef, undef, undef, undef, undef, undef, undef, undef, undef, undef, undef, undef, undef, undef, undef, undef, undef, undef, undef, undef, undef, undef, undef, undef, undef, undef, undef, undef, undef, undef, undef, undef, undef, undef, undef, undef, undef, undef, undef, undef, undef, undef, undef] [] r552.2
noncomputable def s15 (x0 x1 : Value) (w : World) : Option (Value × World) :=
  (Xcall Try.prog (Value.func (Fn.func 27) #[] #[]) #[] w).bind fun r552 =>
  loopR s15B0 s15R0 [x0, x1, (Go.Value.bool false), r552.1, (Go.Value.int Go.IntKind.i64 0)] r552.2
theorem s15B0eq (x0 x1 x4 x5 x6 : Value) (w : World) (g : Nat → Value) (d : List Deferred) : evK Try.prog 15 none (nav [1, 1, 0, 1, 0, 0] (bodyOf Try.f15)) none _ (frm 55 (setL [0, 1, 4, 5, 6] [x0, x1, x4, x5, x6] g) d) w (projK [0, 1, 4, 5, 6]) = s15B0 [x0, x1, x4, x5, x6] w := by kernel_rfl
theorem s15R0x0eq (x0 x1 x4 x5 x6 : Value) (g : Nat → Value) (w : World) : s15K1 (Exit.exit 0) (frm 55 (setL [0, 1, 4, 5, 6] [x0, x1, x4, x5, x6] g) []) w = s15R0 (Exit.exit 0) [x0, x1, x4, x5, x6] w := by kernel_rfl
theorem s15R0ret_eq (x0 x1 x4 x5 x6 : Value) (g : Nat → Value) (w : World) : s15K1 Exit.ret (frm 55 (setL [0, 1, 4, 5, 6] [x0, x1, x4, x5, x6] g) []) w = s15R0 Exit.ret [x0, x1, x4, x5, x6] w := by kernel_rfl
theorem s15R0of : ∀ (e : Exit) (xs : List Value) (w : World) (g : Nat → Value) (y : _), s15R0 e xs w = some y → s15K1 e (frm 55 (setL [0, 1, 4, 5, 6] xs g) []) w = some y := by
  intro e xs w g y h
  unfold s15R0 at h
  split at h
  · exact (s15R0x0eq _ _ _ _ _ g _).trans h
  · exact (s15R0ret_eq _ _ _ _ _ g _).trans h
  · cases h
theorem s15L0of {s0 s1 s2 s3 s4 s5 s6 s7 s8 s9 s10 s11 s12 s13 s14 s15 s16 s17 s18 s19 s20 s21 s22 s23 s24 s25 s26 s27 s28 s29 s30 s31 s32 s33 s34 s35 s36 s37 s38 s39 s40 s41 s42 s43 s44 s45 s46 s47 s48 s49 s50 s51 s52 s53 s54 : Value} {w : World} {r : _} (h : loopR s15B0 s15R0 [s0, s1, s4, s5, s6] w = some r) : s15L0 [s0, s1, s2, s3, s4, s5, s6, s7, s8, s9, s10, s11, s12, s13, s14, s15, s16, s17, s18, s19, s20, s21, s22, s23, s24, s25, s26, s27, s28, s29, s30, s31, s32, s33, s34, s35, s36, s37, s38, s39, s40, s41, s42, s43, s44, s45, s46, s47, s48, s49, s50, s51, s52, s53, s54] [] w = some r :=
  loopN_of (B := s15B0) (R := s15R0) (n := 55) (live := [0, 1, 4, 5, 6]) (fun xs w g y hl h => match xs, hl, h with | [x0, x1, x4, x5, x6], _, h => (s15B0eq x0 x1 x4 x5 x6 w g []).trans h) (by kernel_rfl) (s15R0of) (fun i => ([s0, s1, s2, s3, s4, s5, s6, s7, s8, s9, s10, s11, s12, s13, s14, s15, s16, s17, s18, s19, s20, s21, s22, s23, s24, s25, s26, s27, s28, s29, s30, s31, s32, s33, s34, s35, s36, s37, s38, s39, s40, s41, s42, s43, s44, s45, s46, s47, s48, s49, s50, s51, s52, s53, s54] : List Value).getD i undef) (by kernel_rfl) rfl h
theorem s15eq (x0 x1 : Value) (w : World) : evK Try.prog 15 none (bodyOf Try.f15) none _ { tmps := (([x0, x1] : List Value) ++ List.replicate (55 - 2) undef).toArray, defers := [] } w (leaveK Try.prog Try.f15) = s15raw x0 x1 w := by kernel_rfl
theorem c15 {x0 x1 : Value} {w : World} {r : Value × World} (h : s15 x0 x1 w = some r) : C Try.prog 15 #[x0, x1] w = some r :=
  C_ev follows_all drawLaw (by kernel_rfl) Try.func15 (by rfl) ((s15eq x0 x1 w).trans (show s15raw x0 x1 w = some r from (Ev.bind_mono fun (r552 : Value × World) => (s15L0of)) h))
theorem e15 {x0 x1 : Value} {w : World} {Q : Value × World → Prop} (h : Brings (s15 x0 x1 w) Q) : Brings (Xcall Try.prog (Value.func (Fn.func 15) #[] #[]) #[x0, x1] w) Q :=
  h.call (Xcall_fn Try.func15 (by decide +kernel) (by rfl) _ _ _ w) fun _ h => c15 h

/-! (*lychgate/seqadj.Stream).Unmap -/
noncomputable def s16K0 : Exit → Act → World → Option (Value × World) := seqK (fun a w => evK Try.prog 16 none (nav [1, 1, 1] (bodyOf Try.f16)) none _ a w (leaveK Try.prog Try.f16)) (leaveK Try.prog Try.f16)
noncomputable def s16K1 : Exit → Act → World → Option (Value × World) := blockK 0 s16K0
noncomputable def s16G0R (s3 s4 : Value) (d : List Deferred) (w : World) : Exit → Option (Value × World)
  | Exit.normal =>
    (Qload Try.prog 23 s3 w).bind fun v585 =>
    (Xstore Try.prog 23 s4 v585 w).bind fun r586 =>
    (takeAll Try.prog d r586.2).bind fun w_ => ((((Qload Try.prog 23 s4 w_).bind fun v => ((some [])).map fun vs => v :: vs)).map oneOf).map fun v => (v, w_)
  | Exit.ret =>
    (takeAll Try.prog d w).bind fun w_ => ((((Qload Try.prog 23 s4 w_).bind fun v => ((some [])).map fun vs => v :: vs)).map oneOf).map fun v => (v, w_)
  | _ => none
noncomputable def s16G0Q (l : Nat) (s3 s4 s11 : Value) (w : World) : Option (Value × World) :=
  (Xalloc Try.prog 63 w).bind fun r587 =>
  (Xstore Try.prog 63 r587.1 s11 r587.2).bind fun r588 =>
  begK Try.prog l r588.2 fun w589 =>
  (QfieldAddr Try.prog 63 r587.1 0).bind fun v590 =>
  (Qload Try.prog 23 v590 w589).bind fun v591 =>
  (QfieldAddr Try.prog 63 r587.1 2).bind fun v592 =>
  (Qload Try.prog 23 v592 w589).bind fun v593 =>
  (Qbin Try.prog Go.BinOp.add 23 v591 v593).bind fun v594 =>
  (Qload Try.prog 23 s3 w589).bind fun v595 =>
  (Xcall Try.prog (Value.func (Fn.func 30) #[] #[]) #[v594, v595] w589).bind fun r596 =>
  (Qbin Try.prog Go.BinOp.gtr 3 r596.1 (Go.Value.int Go.IntKind.i64 0)).bind fun v597 =>
  condK v597 (
    endR Try.prog l none r596.2
  ) (
    (QfieldAddr Try.prog 63 r587.1 4).bind fun v598 =>
    (Qload Try.prog 34 v598 r596.2).bind fun v599 =>
    (Qlen Try.prog #[34] 3 #[v599] r596.2).bind fun v600 =>
    (Qconv Try.prog 3 23 v600).bind fun v601 =>
    (Qbin Try.prog Go.BinOp.add 23 v594 v601).bind fun v602 =>
    (Qload Try.prog 23 s3 r596.2).bind fun v603 =>
    (Xcall Try.prog (Value.func (Fn.func 30) #[] #[]) #[v602, v603] r596.2).bind fun r604 =>
    (Qbin Try.prog Go.BinOp.gtr 3 r604.1 (Go.Value.int Go.IntKind.i64 0)).bind fun v605 =>
    condK v605 (
      (QfieldAddr Try.prog 63 r587.1 0).bind fun v606 =>
      (Qload Try.prog 23 v606 r604.2).bind fun v607 =>
      (Xstore Try.prog 23 s4 v607 r604.2).bind fun r608 =>
      endR Try.prog l (some Code.ret) r608.2
    ) (
      (Qload Try.prog 23 s3 r604.2).bind fun v609 =>
      (QfieldAddr Try.prog 63 r587.1 3).bind fun v610 =>
      (Qload Try.prog 23 v610 r604.2).bind fun v611 =>
      (Qbin Try.prog Go.BinOp.sub 23 v609 v611).bind fun v612 =>
      (Xstore Try.prog 23 s4 v612 r604.2).bind fun r613 =>
      endR Try.prog l (some Code.ret) r613.2
    )
  )
noncomputable def s16raw (x0 x1 : Value) (w : World) : Option (Value × World) :=
  (Xbox Try.prog 23 x1 w).bind fun r580 =>
  (Xalloc Try.prog 23 r580.2).bind fun r581 =>
  (Qbin Try.prog Go.BinOp.eql 24 x0 (Go.Value.pointer none)).bind fun v582 =>
  condK v582 (
    (Xstore Try.prog 23 r581.1 (Go.Value.int Go.IntKind.u32 0) r581.2).bind fun r583 =>
    ((((Qload Try.prog 23 r581.1 r583.2).bind fun v => ((some [])).map fun vs => v :: vs)).map oneOf).map fun v => (v, r583.2)
  ) (
    (Xcall Try.prog (Value.func (Fn.func 29) #[] #[]) #[x0] r581.2).bind fun r584 =>
    (evRange Try.prog 16 none r584.1 #[11] (nav [1, 1, 0, 1, 0, 0] (bodyOf Try.f16)) (nav [1, 1, 0, 1, 0, 1] (bodyOf Try.f16)) ⟨[x0, x1, undef, r580.1, r581.1, undef, undef, x0, v582, x0, r584.1, undef, undef, undef, undef, undef, undef, undef, undef, undef, undef, undef, undef, undef, undef, undef, undef, undef, undef, undef, undef, undef, undef, undef, undef, undef, undef, undef, undef].toArray, []⟩ r584.2).bind fun x => s16K1 x.1 x.2.1 x.2.2
  )
noncomputable def s16 (x0 x1 : Value) (w : World) : Option (Value × World) :=
  (Xbox Try.prog 23 x1 w).bind fun r580 =>
  (Xalloc Try.prog 23 r580.2).bind fun r581 =>
  (Qbin Try.prog Go.BinOp.eql 24 x0 (Go.Value.pointer none)).bind fun v582 =>
  condK v582 (
    (Xstore Try.prog 23 r581.1 (Go.Value.int Go.IntKind.u32 0) r581.2).bind fun r583 =>
    ((((Qload Try.prog 23 r581.1 r583.2).bind fun v => ((some [])).map fun vs => v :: vs)).map oneOf).map fun v => (v, r583.2)
  ) (
    (Xcall Try.prog (Value.func (Fn.func 29) #[] #[]) #[x0] r581.2).bind fun r584 =>
    (evRange Try.prog 16 none r584.1 #[11] (nav [1, 1, 0, 1, 0, 0] (bodyOf Try.f16)) (nav [1, 1, 0, 1, 0, 1] (bodyOf Try.f16)) ⟨[x0, x1, undef, r580.1, r581.1, undef, undef, x0, v582, x0, r584.1, undef, undef, undef, undef, undef, undef, undef, undef, undef, undef, undef, undef, undef, undef, undef, undef, undef, undef, undef, undef, undef, undef, undef, undef, undef, undef, undef, undef].toArray, []⟩ r584.2).bind fun x => s16G0R r580.1 r581.1 x.2.1.defers x.2.2 x.1
  )
theorem s16G0Rnrmeq (s0 s1 s2 s3 s4 s5 s6 s7 s8 s9 s10 s11 s12 s13 s14 s15 s16 s17 s18 s19 s20 s21 s22 s23 s24 s25 s26 s27 s28 s29 s30 s31 s32 s33 s34 s35 s36 s37 s38 : Value) (d : List Deferred) (w : World) : s16K1 Exit.normal ⟨[s0, s1, s2, s3, s4, s5, s6, s7, s8, s9, s10, s11, s12, s13, s14, s15, s16, s17, s18, s19, s20, s21, s22, s23, s24, s25, s26, s27, s28, s29, s30, s31, s32, s33, s34, s35, s36, s37, s38].toArray, d⟩ w = s16G0R s3 s4 d w Exit.normal := by kernel_rfl
theorem s16G0Rreteq (s0 s1 s2 s3 s4 s5 s6 s7 s8 s9 s10 s11 s12 s13 s14 s15 s16 s17 s18 s19 s20 s21 s22 s23 s24 s25 s26 s27 s28 s29 s30 s31 s32 s33 s34 s35 s36 s37 s38 : Value) (d : List Deferred) (w : World) : s16K1 Exit.ret ⟨[s0, s1, s2, s3, s4, s5, s6, s7, s8, s9, s10, s11, s12, s13, s14, s15, s16, s17, s18, s19, s20, s21, s22, s23, s24, s25, s26, s27, s28, s29, s30, s31, s32, s33, s34, s35, s36, s37, s38].toArray, d⟩ w = s16G0R s3 s4 d w Exit.ret := by kernel_rfl
theorem s16G0Rof {s0 s1 s2 s3 s4 s5 s6 s7 s8 s9 s10 s11 s12 s13 s14 s15 s16 s17 s18 s19 s20 s21 s22 s23 s24 s25 s26 s27 s28 s29 s30 s31 s32 s33 s34 s35 s36 s37 s38 : Value} {d : List Deferred} {w : World} {e : Exit} {y : _} (h : s16G0R s3 s4 d w e = some y) : s16K1 e ⟨[s0, s1, s2, s3, s4, s5, s6, s7, s8, s9, s10, s11, s12, s13, s14, s15, s16, s17, s18, s19, s20, s21, s22, s23, s24, s25, s26, s27, s28, s29, s30, s31, s32, s33, s34, s35, s36, s37, s38].toArray, d⟩ w = some y := by
  unfold s16G0R at h
  split at h
  · exact (s16G0Rnrmeq _ _ _ _ _ _ _ _ _ _ _ _ _ _ _ _ _ _ _ _ _ _ _ _ _ _ _ _ _ _ _ _ _ _ _ _ _ _ _ _ _).trans h
  · exact (s16G0Rreteq _ _ _ _ _ _ _ _ _ _ _ _ _ _ _ _ _ _ _ _ _ _ _ _ _ _ _ _ _ _ _ _ _ _ _ _ _ _ _ _ _).trans h
  · cases h
theorem s16G0Qeq (l : Nat) (s0 s1 s2 s3 s4 s5 s6 s7 s8 s9 s10 s11 s12 s13 s14 s15 s16 s17 s18 s19 s20 s21 s22 s23 s24 s25 s26 s27 s28 s29 s30 s31 s32 s33 s34 s35 s36 s37 s38 : Value) (w : World) : roundE Try.prog l 16 [s0, s1, s2, s3, s4, s5, s6, s7, s8, s9, s10, s11, s12, s13, s14, s15, s16, s17, s18, s19, s20, s21, s22, s23, s24, s25, s26, s27, s28, s29, s30, s31, s32, s33, s34, s35, s36, s37, s38].toArray (nav [1, 1, 0, 1, 0, 0] (bodyOf Try.f16)) (nav [1, 1, 0, 1, 0, 1] (bodyOf Try.f16)) w = s16G0Q l s3 s4 s11 w := by kernel_rfl
theorem s16G0Qof {l : Nat} {s0 s1 s2 s3 s4 s5 s6 s7 s8 s9 s10 s11 s12 s13 s14 s15 s16 s17 s18 s19 s20 s21 s22 s23 s24 s25 s26 s27 s28 s29 s30 s31 s32 s33 s34 s35 s36 s37 s38 : Value} {w : World} {r : Value × World} (h : s16G0Q l s3 s4 s11 w = some r) : Rd Try.prog l 16 [s0, s1, s2, s3, s4, s5, s6, s7, s8, s9, s10, s11, s12, s13, s14, s15, s16, s17, s18, s19, s20, s21, s22, s23, s24, s25, s26, s27, s28, s29, s30, s31, s32, s33, s34, s35, s36, s37, s38].toArray (nav [1, 1, 0, 1, 0, 0] (bodyOf Try.f16)) (nav [1, 1, 0, 1, 0, 1] (bodyOf Try.f16)) w = some r :=
  Rd_ev follows_all drawLaw (by kernel_rfl) ((s16G0Qeq l s0 s1 s2 s3 s4 s5 s6 s7 s8 s9 s10 s11 s12 s13 s14 s15 s16 s17 s18 s19 s20 s21 s22 s23 s24 s25 s26 s27 s28 s29 s30 s31 s32 s33 s34 s35 s36 s37 s38 w).trans h)
theorem s16G0Qb {l : Nat} {s0 s1 s2 s3 s4 s5 s6 s7 s8 s9 s10 s11 s12 s13 s14 s15 s16 s17 s18 s19 s20 s21 s22 s23 s24 s25 s26 s27 s28 s29 s30 s31 s32 s33 s34 s35 s36 s37 s38 : Value} {w : World} {Q : Value × World → Prop} (h : Brings (s16G0Q l s3 s4 s11 w) Q) : Brings (Rd Try.prog l 16 [s0, s1, s2, s3, s4, s5, s6, s7, s8, s9, s10, s11, s12, s13, s14, s15, s16, s17, s18, s19, s20, s21, s22, s23, s24, s25, s26, s27, s28, s29, s30, s31, s32, s33, s34, s35, s36, s37, s38].toArray (nav [1, 1, 0, 1, 0, 0] (bodyOf Try.f16)) (nav [1, 1, 0, 1, 0, 1] (bodyOf Try.f16)) w) Q := h.of_eq fun _ h => s16G0Qof h
theorem s16eq (x0 x1 : Value) (w : World) : evK Try.prog 16 none (bodyOf Try.f16) none _ { tmps := (([x0, x1] : List Value) ++ List.replicate (39 - 2) undef).toArray, defers := [] } w (leaveK Try.prog Try.f16) = s16raw x0 x1 w := by kernel_rfl
theorem c16 {x0 x1 : Value} {w : World} {r : Value × World} (h : s16 x0 x1 w = some r) : C Try.prog 16 #[x0, x1] w = some r :=
  C_ev follows_all drawLaw (by kernel_rfl) Try.func16 (by rfl) ((s16eq x0 x1 w).trans (show s16raw x0 x1 w = some r from (Ev.bind_mono fun (r580 : Value × World) => (Ev.bind_mono fun (r581 : Value × World) => (Ev.bind_mono fun (v582 : Value) => (condK_mono id (Ev.bind_mono fun (r584 : Value × World) => (range_of (R := fun e d w => s16G0R r580.1 r581.1 d w e) (fun e d w y h => s16G0Rof h))))))) h))
theorem e16 {x0 x1 : Value} {w : World} {Q : Value × World → Prop} (h : Brings (s16 x0 x1 w) Q) : Brings (Xcall Try.prog (Value.func (Fn.func 16) #[] #[]) #[x0, x1] w) Q :=
  h.call (Xcall_fn Try.func16 (by decide +kernel) (by rfl) _ _ _ w) fun _ h => c16 h

/-! (*lychgate/seqadj.Stream).Map -/
noncomputable def s17K0 : Exit → Act → World → Option (Value × World) := scopeK (leaveK Try.prog Try.f17)
noncomputable def s17K1 : Exit → Act → World → Option (Value × World) := seqK (fun a w => evK Try.prog 17 none (nav [1, 0] (bodyOf Try.f17)) none _ a w s17K0) s17K0
noncomputable def s17J0 (s : List Value) (d : List Deferred) (w : World) : Option (Value × World) := s17K1 .normal ⟨s.toArray, d⟩ w
noncomputable def s17K2 : Exit → Act → World → Option (Value × World) := seqK (fun a w => evK Try.prog 17 none (nav [1, 0, 1, 1, 1, 1] (bodyOf Try.f17)) none _ a w s17K0) s17K0
noncomputable def s17K3 : Exit → Act → World → Option (Value × World) := blockK 0 s17K2
noncomputable def s17G1R (s5 : Value) (d : List Deferred) (w : World) : Exit → Option (Value × World)
  | Exit.normal =>
    (Qload Try.prog 23 s5 w).bind fun v620 =>
    (takeAll Try.prog d w).bind fun w_ => some (v620, w_)
  | (Exit.exit 0) =>
    (Qload Try.prog 23 s5 w).bind fun v621 =>
    (takeAll Try.prog d w).bind fun w_ => some (v621, w_)
  | _ => none
noncomputable def s17G1Q (l : Nat) (s3 s5 s12 : Value) (w : World) : Option (Value × World) :=
  (Xalloc Try.prog 63 w).bind fun r622 =>
  (Xstore Try.prog 63 r622.1 s12 r622.2).bind fun r623 =>
  begK Try.prog l r623.2 fun w624 =>
  (QfieldAddr Try.prog 63 r622.1 0).bind fun v625 =>
  (Qload Try.prog 23 v625 w624).bind fun v626 =>
  (Qload Try.prog 23 s3 w624).bind fun v627 =>
  (Xcall Try.prog (Value.func (Fn.func 30) #[] #[]) #[v626, v627] w624).bind fun r628 =>
  (Qbin Try.prog Go.BinOp.gtr 3 r628.1 (Go.Value.int Go.IntKind.i64 0)).bind fun v629 =>
  condK v629 (
    endR Try.prog l none r628.2
  ) (
    (QfieldAddr Try.prog 63 r622.1 1).bind fun v630 =>
    (Qload Try.prog 23 v630 r628.2).bind fun v631 =>
    (Qload Try.prog 23 s3 r628.2).bind fun v632 =>
    (Xcall Try.prog (Value.func (Fn.func 30) #[] #[]) #[v631, v632] r628.2).bind fun r633 =>
    (Qbin Try.prog Go.BinOp.gtr 3 r633.1 (Go.Value.int Go.IntKind.i64 0)).bind fun v634 =>
    condK v634 (
      (QfieldAddr Try.prog 63 r622.1 0).bind fun v635 =>
      (Qload Try.prog 23 v635 r633.2).bind fun v636 =>
      (QfieldAddr Try.prog 63 r622.1 2).bind fun v637 =>
      (Qload Try.prog 23 v637 r633.2).bind fun v638 =>
      (Qbin Try.prog Go.BinOp.add 23 v636 v638).bind fun v639 =>
      (Xstore Try.prog 23 s5 v639 r633.2).bind fun r640 =>
      endR Try.prog l (some (Code.exit 0)) r640.2
    ) (
      (Qload Try.prog 23 s3 r633.2).bind fun v641 =>
      (QfieldAddr Try.prog 63 r622.1 3).bind fun v642 =>
      (Qload Try.prog 23 v642 r633.2).bind fun v643 =>
      (Qbin Try.prog Go.BinOp.add 23 v641 v643).bind fun v644 =>
      (Xstore Try.prog 23 s5 v644 r633.2).bind fun r645 =>
      endR Try.prog l (some (Code.exit 0)) r645.2
    )
  )
noncomputable def s17M0raw (s0 s1 s2 s3 s4 _s5 s6 _s7 _s8 _s9 _s10 _s11 s12 s13 s14 s15 s16 s17 s18 s19 s20 s21 s22 s23 s24 s25 s26 s27 s28 s29 s30 s31 s32 s33 s34 : Value) (d : List Deferred) (w : World) : Option (Value × World) :=
  (Qbin Try.prog Go.BinOp.eql 24 s0 (Go.Value.pointer none)).bind fun v615 =>
  condK v615 (
    (takeAll Try.prog d w).bind fun w_ => some ((Go.Value.int Go.IntKind.u32 0), w_)
  ) (
    (Qload Try.prog 23 s3 w).bind fun v616 =>
    (Xalloc Try.prog 23 w).bind fun r617 =>
    (Xstore Try.prog 23 r617.1 v616 r617.2).bind fun r618 =>
    (Xcall Try.prog (Value.func (Fn.func 29) #[] #[]) #[s0] r618.2).bind fun r619 =>
    (evRange Try.prog 17 none r619.1 #[12] (nav [1, 0, 1, 1, 1, 0, 1, 0, 0] (bodyOf Try.f17)) (nav [1, 0, 1, 1, 1, 0, 1, 0, 1] (bodyOf Try.f17)) ⟨[s0, s1, s2, s3, s4, r617.1, s6, s0, v615, v616, s0, r619.1, s12, s13, s14, s15, s16, s17, s18, s19, s20, s21, s22, s23, s24, s25, s26, s27, s28, s29, s30, s31, s32, s33, s34].toArray, d⟩ r619.2).bind fun x => s17K3 x.1 x.2.1 x.2.2
  )
noncomputable def s17M0 (s0 s1 s2 s3 s4 _s5 s6 _s7 _s8 _s9 _s10 _s11 s12 s13 s14 s15 s16 s17 s18 s19 s20 s21 s22 s23 s24 s25 s26 s27 s28 s29 s30 s31 s32 s33 s34 : Value) (d : List Deferred) (w : World) : Option (Value × World) :=
  (Qbin Try.prog Go.BinOp.eql 24 s0 (Go.Value.pointer none)).bind fun v615 =>
  condK v615 (
    (takeAll Try.prog d w).bind fun w_ => some ((Go.Value.int Go.IntKind.u32 0), w_)
  ) (
    (Qload Try.prog 23 s3 w).bind fun v616 =>
    (Xalloc Try.prog 23 w).bind fun r617 =>
    (Xstore Try.prog 23 r617.1 v616 r617.2).bind fun r618 =>
    (Xcall Try.prog (Value.func (Fn.func 29) #[] #[]) #[s0] r618.2).bind fun r619 =>
    (evRange Try.prog 17 none r619.1 #[12] (nav [1, 0, 1, 1, 1, 0, 1, 0, 0] (bodyOf Try.f17)) (nav [1, 0, 1, 1, 1, 0, 1, 0, 1] (bodyOf Try.f17)) ⟨[s0, s1, s2, s3, s4, r617.1, s6, s0, v615, v616, s0, r619.1, s12, s13, s14, s15, s16, s17, s18, s19, s20, s21, s22, s23, s24, s25, s26, s27, s28, s29, s30, s31, s32, s33, s34].toArray, d⟩ r619.2).bind fun x => s17G1R r617.1 x.2.1.defers x.2.2 x.1
  )
noncomputable def s17raw (x0 x1 : Value) (w : World) : Option (Value × World) :=
  (Xbox Try.prog 23 x1 w).bind fun r614 =>
  evK Try.prog 17 none (nav [1] (bodyOf Try.f17)) none _ ⟨[x0, x1, undef, r614.1, (Go.Value.int Go.IntKind.u32 0), undef, undef, undef, undef, undef, undef, undef, undef, undef, undef, undef, undef, undef, undef, undef, undef, undef, undef, undef, undef, undef, undef, undef, undef, undef, undef, undef, undef, undef, undef].toArray, []⟩ r614.2 (leaveK Try.prog Try.f17)
noncomputable def s17 (x0 x1 : Value) (w : World) : Option (Value × World) :=
  (Xbox Try.prog 23 x1 w).bind fun r614 =>
  s17M0 x0 x1 undef r614.1 (Go.Value.int Go.IntKind.u32 0) undef undef undef undef undef undef undef undef undef undef undef undef undef undef undef undef undef undef undef undef undef undef undef undef undef undef undef undef undef undef [] r614.2
theorem s17G1Rnrmeq (s0 s1 s2 s3 s4 s5 s6 s7 s8 s9 s10 s11 s12 s13 s14 s15 s16 s17 s18 s19 s20 s21 s22 s23 s24 s25 s26 s27 s28 s29 s30 s31 s32 s33 s34 : Value) (d : List Deferred) (w : World) : s17K3 Exit.normal ⟨[s0, s1, s2, s3, s4, s5, s6, s7, s8, s9, s10, s11, s12, s13, s14, s15, s16, s17, s18, s19, s20, s21, s22, s23, s24, s25, s26, s27, s28, s29, s30, s31, s32, s33, s34].toArray, d⟩ w = s17G1R s5 d w Exit.normal := by kernel_rfl
theorem s17G1Rx0eq (s0 s1 s2 s3 s4 s5 s6 s7 s8 s9 s10 s11 s12 s13 s14 s15 s16 s17 s18 s19 s20 s21 s22 s23 s24 s25 s26 s27 s28 s29 s30 s31 s32 s33 s34 : Value) (d : List Deferred) (w : World) : s17K3 (Exit.exit 0) ⟨[s0, s1, s2, s3, s4, s5, s6, s7, s8, s9, s10, s11, s12, s13, s14, s15, s16, s17, s18, s19, s20, s21, s22, s23, s24, s25, s26, s27, s28, s29, s30, s31, s32, s33, s34].toArray, d⟩ w = s17G1R s5 d w (Exit.exit 0) := by kernel_rfl
theorem s17G1Rof {s0 s1 s2 s3 s4 s5 s6 s7 s8 s9 s10 s11 s12 s13 s14 s15 s16 s17 s18 s19 s20 s21 s22 s23 s24 s25 s26 s27 s28 s29 s30 s31 s32 s33 s34 : Value} {d : List Deferred} {w : World} {e : Exit} {y : _} (h : s17G1R s5 d w e = some y) : s17K3 e ⟨[s0, s1, s2, s3, s4, s5, s6, s7, s8, s9, s10, s11, s12, s13, s14, s15, s16, s17, s18, s19, s20, s21, s22, s23, s24, s25, s26, s27, s28, s29, s30, s31, s32, s33, s34].toArray, d⟩ w = some y := by
  unfold s17G1R at h
  split at h
  · exact (s17G1Rnrmeq _ _ _ _ _ _ _ _ _ _ _ _ _ _ _ _ _ _ _ _ _ _ _ _ _ _ _ _ _ _ _ _ _ _ _ _ _).trans h
  · exact (s17G1Rx0eq _ _ _ _ _ _ _ _ _ _ _ _ _ _ _ _ _ _ _ _ _ _ _ _ _ _ _ _ _ _ _ _ _ _ _ _ _).trans h
  · cases h
theorem s17G1Qeq (l : Nat) (s0 s1 s2 s3 s4 s5 s6 s7 s8 s9 s10 s11 s12 s13 s14 s15 s16 s17 s18 s19 s20 s21 s22 s23 s24 s25 s26 s27 s28 s29 s30 s31 s32 s33 s34 : Value) (w : World) : roundE Try.prog l 17 [s0, s1, s2, s3, s4, s5, s6, s7, s8, s9, s10, s11, s12, s13, s14, s15, s16, s17, s18, s19, s20, s21, s22, s23, s24, s25, s26, s27, s28, s29, s30, s31, s32, s33, s34].toArray (nav [1, 0, 1, 1, 1, 0, 1, 0, 0] (bodyOf Try.f17)) (nav [1, 0, 1, 1, 1, 0, 1, 0, 1] (bodyOf Try.f17)) w = s17G1Q l s3 s5 s12 w := by kernel_rfl
theorem s17G1Qof {l : Nat} {s0 s1 s2 s3 s4 s5 s6 s7 s8 s9 s10 s11 s12 s13 s14 s15 s16 s17 s18 s19 s20 s21 s22 s23 s24 s25 s26 s27 s28 s29 s30 s31 s32 s33 s34 : Value} {w : World} {r : Value × World} (h : s17G1Q l s3 s5 s12 w = some r) : Rd Try.prog l 17 [s0, s1, s2, s3, s4, s5, s6, s7, s8, s9, s10, s11, s12, s13, s14, s15, s16, s17, s18, s19, s20, s21, s22, s23, s24, s25, s26, s27, s28, s29, s30, s31, s32, s33, s34].toArray (nav [1, 0, 1, 1, 1, 0, 1, 0, 0] (bodyOf Try.f17)) (nav [1, 0, 1, 1, 1, 0, 1, 0, 1] (bodyOf Try.f17)) w = some r :=
  Rd_ev follows_all drawLaw (by kernel_rfl) ((s17G1Qeq l s0 s1 s2 s3 s4 s5 s6 s7 s8 s9 s10 s11 s12 s13 s14 s15 s16 s17 s18 s19 s20 s21 s22 s23 s24 s25 s26 s27 s28 s29 s30 s31 s32 s33 s34 w).trans h)
theorem s17G1Qb {l : Nat} {s0 s1 s2 s3 s4 s5 s6 s7 s8 s9 s10 s11 s12 s13 s14 s15 s16 s17 s18 s19 s20 s21 s22 s23 s24 s25 s26 s27 s28 s29 s30 s31 s32 s33 s34 : Value} {w : World} {Q : Value × World → Prop} (h : Brings (s17G1Q l s3 s5 s12 w) Q) : Brings (Rd Try.prog l 17 [s0, s1, s2, s3, s4, s5, s6, s7, s8, s9, s10, s11, s12, s13, s14, s15, s16, s17, s18, s19, s20, s21, s22, s23, s24, s25, s26, s27, s28, s29, s30, s31, s32, s33, s34].toArray (nav [1, 0, 1, 1, 1, 0, 1, 0, 0] (bodyOf Try.f17)) (nav [1, 0, 1, 1, 1, 0, 1, 0, 1] (bodyOf Try.f17)) w) Q := h.of_eq fun _ h => s17G1Qof h
theorem s17J0eq (s0 s1 s2 s3 s4 s5 s6 s7 s8 s9 s10 s11 s12 s13 s14 s15 s16 s17 s18 s19 s20 s21 s22 s23 s24 s25 s26 s27 s28 s29 s30 s31 s32 s33 s34 : Value) (d : List Deferred) (w : World) : s17J0 [s0, s1, s2, s3, s4, s5, s6, s7, s8, s9, s10, s11, s12, s13, s14, s15, s16, s17, s18, s19, s20, s21, s22, s23, s24, s25, s26, s27, s28, s29, s30, s31, s32, s33, s34] d w = s17M0raw s0 s1 s2 s3 s4 s5 s6 s7 s8 s9 s10 s11 s12 s13 s14 s15 s16 s17 s18 s19 s20 s21 s22 s23 s24 s25 s26 s27 s28 s29 s30 s31 s32 s33 s34 d w := (show s17J0 [s0, s1, s2, s3, s4, s5, s6, s7, s8, s9, s10, s11, s12, s13, s14, s15, s16, s17, s18, s19, s20, s21, s22, s23, s24, s25, s26, s27, s28, s29, s30, s31, s32, s33, s34] d w = evK Try.prog 17 none (nav [1, 0] (bodyOf Try.f17)) none _ ⟨[s0, s1, s2, s3, s4, s5, s6, s7, s8, s9, s10, s11, s12, s13, s14, s15, s16, s17, s18, s19, s20, s21, s22, s23, s24, s25, s26, s27, s28, s29, s30, s31, s32, s33, s34].toArray, d⟩ w s17K0 from by kernel_rfl).trans (by kernel_rfl)
theorem s17J0of {s0 s1 s2 s3 s4 s5 s6 s7 s8 s9 s10 s11 s12 s13 s14 s15 s16 s17 s18 s19 s20 s21 s22 s23 s24 s25 s26 s27 s28 s29 s30 s31 s32 s33 s34 : Value} {d : List Deferred} {w : World} {r : _} (h : s17M0 s0 s1 s2 s3 s4 s5 s6 s7 s8 s9 s10 s11 s12 s13 s14 s15 s16 s17 s18 s19 s20 s21 s22 s23 s24 s25 s26 s27 s28 s29 s30 s31 s32 s33 s34 d w = some r) : s17J0 [s0, s1, s2, s3, s4, s5, s6, s7, s8, s9, s10, s11, s12, s13, s14, s15, s16, s17, s18, s19, s20, s21, s22, s23, s24, s25, s26, s27, s28, s29, s30, s31, s32, s33, s34] d w = some r :=
  ((s17J0eq s0 s1 s2 s3 s4 s5 s6 s7 s8 s9 s10 s11 s12 s13 s14 s15 s16 s17 s18 s19 s20 s21 s22 s23 s24 s25 s26 s27 s28 s29 s30 s31 s32 s33 s34 d w).trans ((Ev.bind_mono fun (v615 : Value) => (condK_mono id (Ev.bind_mono fun (v616 : Value) => (Ev.bind_mono fun (r617 : Value × World) => (Ev.bind_mono fun (r618 : Value × World) => (Ev.bind_mono fun (r619 : Value × World) => (range_of (R := fun e d w => s17G1R r617.1 d w e) (fun e d w y h => s17G1Rof h)))))))) h))
theorem s17eq (x0 x1 : Value) (w : World) : evK Try.prog 17 none (bodyOf Try.f17) none _ { tmps := (([x0, x1] : List Value) ++ List.replicate (35 - 2) undef).toArray, defers := [] } w (leaveK Try.prog Try.f17) = s17raw x0 x1 w := by kernel_rfl
theorem c17 {x0 x1 : Value} {w : World} {r : Value × World} (h : s17 x0 x1 w = some r) : C Try.prog 17 #[x0, x1] w = some r :=
  C_ev follows_all drawLaw (by kernel_rfl) Try.func17 (by rfl) ((s17eq x0 x1 w).trans (show s17raw x0 x1 w = some r from (Ev.bind_mono fun (r614 : Value × World) => (fun h => scope_of (c := (nav [1, 0] (bodyOf Try.f17))) (by kernel_rfl) (s17J0of h))) h))
theorem e17 {x0 x1 : Value} {w : World} {Q : Value × World → Prop} (h : Brings (s17 x0 x1 w) Q) : Brings (Xcall Try.prog (Value.func (Fn.func 17) #[] #[]) #[x0, x1] w) Q :=
  h.call (Xcall_fn Try.func17 (by decide +kernel) (by rfl) _ _ _ w) fun _ h => c17 h

/-! lychgate/lychgateref01.Ahead -/
noncomputable def s18 (x0 x1 : Value) (w : World) : Option (Value × World) :=
  (Qbin Try.prog Go.BinOp.sub 23 x0 x1).bind fun v646 =>
  (Qconv Try.prog 23 3 v646).bind fun v647 =>
  (Qbin Try.prog Go.BinOp.geq 3 v647 (Go.Value.int Go.IntKind.i64 2147483648)).bind fun v648 =>
  condK v648 (
    (Qbin Try.prog Go.BinOp.sub 3 v647 (Go.Value.int Go.IntKind.i64 4294967296)).bind fun v649 =>
    some (v649, w)
  ) (
    some (v647, w)
  )
theorem s18eq (x0 x1 : Value) (w : World) : evK Try.prog 18 none (bodyOf Try.f18) none _ { tmps := (([x0, x1] : List Value) ++ List.replicate (15 - 2) undef).toArray, defers := [] } w (leaveK Try.prog Try.f18) = s18 x0 x1 w := by kernel_rfl
theorem c18 {x0 x1 : Value} {w : World} {r : Value × World} (h : s18 x0 x1 w = some r) : C Try.prog 18 #[x0, x1] w = some r :=
  C_ev follows_all drawLaw (by kernel_rfl) Try.func18 (by rfl) ((s18eq x0 x1 w).trans h)
theorem e18 {x0 x1 : Value} {w : World} {Q : Value × World → Prop} (h : Brings (s18 x0 x1 w) Q) : Brings (Xcall Try.prog (Value.func (Fn.func 18) #[] #[]) #[x0, x1] w) Q :=
  h.call (Xcall_fn Try.func18 (by decide +kernel) (by rfl) _ _ _ w) fun _ h => c18 h

/-! lychgate/seqadj.New -/
noncomputable def s19 (w : World) : Option (Value × World) :=
  (Qbuild Try.prog 66 #[] w).bind fun v650 =>
  (Xbox Try.prog 66 v650 w).bind fun r651 =>
  some (r651.1, r651.2)
theorem s19eq (w : World) : evK Try.prog 19 none (bodyOf Try.f19) none _ { tmps := (([] : List Value) ++ List.replicate (3 - 0) undef).toArray, defers := [] } w (leaveK Try.prog Try.f19) = s19  w := by kernel_rfl
theorem c19 {w : World} {r : Value × World} (h : s19  w = some r) : C Try.prog 19 #[] w = some r :=
  C_ev follows_all drawLaw (by kernel_rfl) Try.func19 (by rfl) ((s19eq  w).trans h)
theorem e19 {w : World} {Q : Value × World → Prop} (h : Brings (s19  w) Q) : Brings (Xcall Try.prog (Value.func (Fn.func 19) #[] #[]) #[] w) Q :=
  h.call (Xcall_fn Try.func19 (by decide +kernel) (by rfl) _ _ _ w) fun _ h => c19 h

end Go.Proofs.Ytfakpdegiobpaaa
