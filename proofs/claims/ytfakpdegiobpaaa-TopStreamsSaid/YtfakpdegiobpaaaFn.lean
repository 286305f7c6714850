/- The functions of the program, by their texts. -/
import Derived.Test.YtfakpdegiobpaaaFp1
namespace Go.Proofs.Ytfakpdegiobpaaa
open Go Go.Ev
open Go.Proofs
/-! (*lychgate/seqadj.Stream).Add -/
noncomputable def s20K0 : Exit → Act → World → Option (Value × World) := seqK (fun a w => evK Try.prog 20 none (nav [1, 1, 1, 1, 1] (bodyOf Try.f20)) none _ a w (leaveK Try.prog Try.f20)) (leaveK Try.prog Try.f20)
noncomputable def s20J0 (s : List Value) (d : List Deferred) (w : World) : Option (Value × World) := s20K0 .normal ⟨s.toArray, d⟩ w
noncomputable def s20K1 : Exit → Act → World → Option (Value × World) := seqK (fun a w => evK Try.prog 20 none (nav [1, 1, 1, 1, 1, 1] (bodyOf Try.f20)) none _ a w (leaveK Try.prog Try.f20)) (leaveK Try.prog Try.f20)
noncomputable def s20K2 : Exit → Act → World → Option (Value × World) := blockK 0 s20K1
noncomputable def s20G1R (s0 s2 s3 s8 s10 : Value) (d : List Deferred) (w : World) : Exit → Option (Value × World)
  | Exit.normal =>
    (Qnil s0).bind fun v664 =>
    (QfieldAddr Try.prog 66 v664 0).bind fun v665 =>
    (Qload Try.prog 64 v665 w).bind fun v666 =>
    (Qlen Try.prog #[64] 3 #[v666] w).bind fun v667 =>
    (Qbin Try.prog Go.BinOp.geq 3 v667 (Go.Value.int Go.IntKind.i64 8)).bind fun v668 =>
    condK v668 (
      (Xstore Try.prog 37 s8 (Go.Value.int Go.IntKind.i64 9) w).bind fun r669 =>
      (takeAll Try.prog d r669.2).bind fun w_ => ((((Qload Try.prog 37 s8 w_).bind fun v => ((some [])).map fun vs => v :: vs)).map oneOf).map fun v => (v, w_)
    ) (
      (QfieldAddr Try.prog 63 s10 2).bind fun v670 =>
      (Qload Try.prog 23 v670 w).bind fun v671 =>
      (Qlen Try.prog #[34] 3 #[s3] w).bind fun v672 =>
      (Qconv Try.prog 3 23 v672).bind fun v673 =>
      (Qbin Try.prog Go.BinOp.add 23 v671 v673).bind fun v674 =>
      (Qconv Try.prog 3 23 s2).bind fun v675 =>
      (Qbin Try.prog Go.BinOp.sub 23 v674 v675).bind fun v676 =>
      (QfieldAddr Try.prog 63 s10 3).bind fun v677 =>
      (Xstore Try.prog 23 v677 v676 w).bind fun r678 =>
      (Qnil s0).bind fun v679 =>
      (QfieldAddr Try.prog 66 v679 0).bind fun v680 =>
      (Qload Try.prog 64 v680 r678.2.drew).bind fun v681 =>
      (Qload Try.prog 63 s10 r678.2.drew).bind fun v682 =>
      (XbuildSlice Try.prog 64 1 #[(0, v682)] r678.2.drew).bind fun r683 =>
      (Xbi Try.prog Go.Builtin.append #[64, 64] 64 #[v681, r683.1] r683.2).bind fun r684 =>
      (Qnil s0).bind fun v685 =>
      (QfieldAddr Try.prog 66 v685 0).bind fun v686 =>
      (Xstore Try.prog 64 v686 r684.1 r684.2).bind fun r687 =>
      chkK ((Qload Try.prog 64 v680 r678.2.drew = some v681 ∧ Qload Try.prog 64 v680 r683.2 = some v681) ∧ True) (
        (Xstore Try.prog 37 s8 (Go.Value.int Go.IntKind.i64 0) r687.2).bind fun r688 =>
        (takeAll Try.prog d r688.2).bind fun w_ => ((((Qload Try.prog 37 s8 w_).bind fun v => ((some [])).map fun vs => v :: vs)).map oneOf).map fun v => (v, w_)
      )
    )
  | (Exit.exit 0) =>
    (Qnil s0).bind fun v689 =>
    (QfieldAddr Try.prog 66 v689 0).bind fun v690 =>
    (Qload Try.prog 64 v690 w).bind fun v691 =>
    (Qlen Try.prog #[64] 3 #[v691] w).bind fun v692 =>
    (Qbin Try.prog Go.BinOp.geq 3 v692 (Go.Value.int Go.IntKind.i64 8)).bind fun v693 =>
    condK v693 (
      (Xstore Try.prog 37 s8 (Go.Value.int Go.IntKind.i64 9) w).bind fun r694 =>
      (takeAll Try.prog d r694.2).bind fun w_ => ((((Qload Try.prog 37 s8 w_).bind fun v => ((some [])).map fun vs => v :: vs)).map oneOf).map fun v => (v, w_)
    ) (
      (QfieldAddr Try.prog 63 s10 2).bind fun v695 =>
      (Qload Try.prog 23 v695 w).bind fun v696 =>
      (Qlen Try.prog #[34] 3 #[s3] w).bind fun v697 =>
      (Qconv Try.prog 3 23 v697).bind fun v698 =>
      (Qbin Try.prog Go.BinOp.add 23 v696 v698).bind fun v699 =>
      (Qconv Try.prog 3 23 s2).bind fun v700 =>
      (Qbin Try.prog Go.BinOp.sub 23 v699 v700).bind fun v701 =>
      (QfieldAddr Try.prog 63 s10 3).bind fun v702 =>
      (Xstore Try.prog 23 v702 v701 w).bind fun r703 =>
      (Qnil s0).bind fun v704 =>
      (QfieldAddr Try.prog 66 v704 0).bind fun v705 =>
      (Qload Try.prog 64 v705 r703.2.drew).bind fun v706 =>
      (Qload Try.prog 63 s10 r703.2.drew).bind fun v707 =>
      (XbuildSlice Try.prog 64 1 #[(0, v707)] r703.2.drew).bind fun r708 =>
      (Xbi Try.prog Go.Builtin.append #[64, 64] 64 #[v706, r708.1] r708.2).bind fun r709 =>
      (Qnil s0).bind fun v710 =>
      (QfieldAddr Try.prog 66 v710 0).bind fun v711 =>
      (Xstore Try.prog 64 v711 r709.1 r709.2).bind fun r712 =>
      chkK ((Qload Try.prog 64 v705 r703.2.drew = some v706 ∧ Qload Try.prog 64 v705 r708.2 = some v706) ∧ True) (
        (Xstore Try.prog 37 s8 (Go.Value.int Go.IntKind.i64 0) r712.2).bind fun r713 =>
        (takeAll Try.prog d r713.2).bind fun w_ => ((((Qload Try.prog 37 s8 w_).bind fun v => ((some [])).map fun vs => v :: vs)).map oneOf).map fun v => (v, w_)
      )
    )
  | Exit.ret =>
    (takeAll Try.prog d w).bind fun w_ => ((((Qload Try.prog 37 s8 w_).bind fun v => ((some [])).map fun vs => v :: vs)).map oneOf).map fun v => (v, w_)
  | _ => none
noncomputable def s20G1Q (l : Nat) (s5 s8 s10 s35 : Value) (w : World) : Option (Value × World) :=
  (Xalloc Try.prog 63 w).bind fun r714 =>
  (Xstore Try.prog 63 r714.1 s35 r714.2).bind fun r715 =>
  begK Try.prog l r715.2 fun w716 =>
  (Qload Try.prog 23 s5 w716).bind fun v717 =>
  (QfieldAddr Try.prog 63 r714.1 1).bind fun v718 =>
  (Qload Try.prog 23 v718 w716).bind fun v719 =>
  (Xcall Try.prog (Value.func (Fn.func 30) #[] #[]) #[v717, v719] w716).bind fun r720 =>
  (Qbin Try.prog Go.BinOp.lss 3 r720.1 (Go.Value.int Go.IntKind.i64 0)).bind fun v721 =>
  condK v721 (
    (Xstore Try.prog 37 s8 (Go.Value.int Go.IntKind.i64 2) r720.2).bind fun r722 =>
    endR Try.prog l (some Code.ret) r722.2
  ) (
    (QfieldAddr Try.prog 63 r714.1 3).bind fun v723 =>
    (Qload Try.prog 23 v723 r720.2).bind fun v724 =>
    (QfieldAddr Try.prog 63 s10 2).bind fun v725 =>
    (Xstore Try.prog 23 v725 v724 r720.2).bind fun r726 =>
    endR Try.prog l (some (Code.exit 0)) r726.2
  )
noncomputable def s20M0raw (s0 s1 s2 s3 s4 s5 s6 s7 s8 s9 s10 s11 s12 s13 s14 s15 s16 s17 s18 s19 s20 s21 s22 s23 s24 s25 s26 s27 s28 s29 s30 s31 s32 _s33 _s34 s35 s36 s37 s38 s39 s40 s41 s42 s43 s44 s45 s46 s47 s48 s49 s50 s51 s52 s53 s54 s55 s56 s57 s58 s59 s60 s61 s62 s63 s64 s65 s66 s67 s68 s69 : Value) (d : List Deferred) (w : World) : Option (Value × World) :=
  (Xcall Try.prog (Value.func (Fn.func 29) #[] #[]) #[s0] w).bind fun r663 =>
  (evRange Try.prog 20 none r663.1 #[35] (nav [1, 1, 1, 1, 1, 0, 1, 0, 0] (bodyOf Try.f20)) (nav [1, 1, 1, 1, 1, 0, 1, 0, 1] (bodyOf Try.f20)) ⟨[s0, s1, s2, s3, s4, s5, s6, s7, s8, s9, s10, s11, s12, s13, s14, s15, s16, s17, s18, s19, s20, s21, s22, s23, s24, s25, s26, s27, s28, s29, s30, s31, s32, s0, r663.1, s35, s36, s37, s38, s39, s40, s41, s42, s43, s44, s45, s46, s47, s48, s49, s50, s51, s52, s53, s54, s55, s56, s57, s58, s59, s60, s61, s62, s63, s64, s65, s66, s67, s68, s69].toArray, d⟩ r663.2).bind fun x => s20K2 x.1 x.2.1 x.2.2
noncomputable def s20M0 (s0 s1 s2 s3 s4 s5 s6 s7 s8 s9 s10 s11 s12 s13 s14 s15 s16 s17 s18 s19 s20 s21 s22 s23 s24 s25 s26 s27 s28 s29 s30 s31 s32 _s33 _s34 s35 s36 s37 s38 s39 s40 s41 s42 s43 s44 s45 s46 s47 s48 s49 s50 s51 s52 s53 s54 s55 s56 s57 s58 s59 s60 s61 s62 s63 s64 s65 s66 s67 s68 s69 : Value) (d : List Deferred) (w : World) : Option (Value × World) :=
  (Xcall Try.prog (Value.func (Fn.func 29) #[] #[]) #[s0] w).bind fun r663 =>
  (evRange Try.prog 20 none r663.1 #[35] (nav [1, 1, 1, 1, 1, 0, 1, 0, 0] (bodyOf Try.f20)) (nav [1, 1, 1, 1, 1, 0, 1, 0, 1] (bodyOf Try.f20)) ⟨[s0, s1, s2, s3, s4, s5, s6, s7, s8, s9, s10, s11, s12, s13, s14, s15, s16, s17, s18, s19, s20, s21, s22, s23, s24, s25, s26, s27, s28, s29, s30, s31, s32, s0, r663.1, s35, s36, s37, s38, s39, s40, s41, s42, s43, s44, s45, s46, s47, s48, s49, s50, s51, s52, s53, s54, s55, s56, s57, s58, s59, s60, s61, s62, s63, s64, s65, s66, s67, s68, s69].toArray, d⟩ r663.2).bind fun x => s20G1R s0 s2 s3 s8 s10 x.2.1.defers x.2.2 x.1
noncomputable def s20raw (x0 x1 x2 x3 : Value) (w : World) : Option (Value × World) :=
  (Xbox Try.prog 23 x1 w).bind fun r652 =>
  (Xalloc Try.prog 37 r652.2).bind fun r653 =>
  (Qbin Try.prog Go.BinOp.eql 24 x0 (Go.Value.pointer none)).bind fun v654 =>
  condK v654 (
    (Xstore Try.prog 37 r653.1 (Go.Value.int Go.IntKind.i64 1) r653.2).bind fun r655 =>
    ((((Qload Try.prog 37 r653.1 r655.2).bind fun v => ((some [])).map fun vs => v :: vs)).map oneOf).map fun v => (v, r655.2)
  ) (
    (Xcall Try.prog (Value.func (Fn.func 31) #[] #[]) #[x2] r653.2).bind fun r656 =>
    (Qun Go.UnOp.not r656.1).bind fun v657 =>
    (guardQ v657 false (Qlen Try.prog #[34] 3 #[(gv (isB v657 false) x3)] r656.2)).bind fun v658 =>
    (guardX v657 false r656.2 (Xcall Try.prog (gv (isB v657 false) (Value.func (Fn.func 31) #[] #[])) #[v658] r656.2)).bind fun r659 =>
    (guardQ v657 false (Qun Go.UnOp.not r659.1)).bind fun v660 =>
    (Qpick v657 (Go.Value.bool true) v660).bind fun v661 =>
    condK v661 (
      (Xstore Try.prog 37 r653.1 (Go.Value.int Go.IntKind.i64 2) r659.2).bind fun r662 =>
      ((((Qload Try.prog 37 r653.1 r662.2).bind fun v => ((some [])).map fun vs => v :: vs)).map oneOf).map fun v => (v, r662.2)
    ) (
      evDraw Try.prog 20 6 (opsOf (nav [1, 1, 1, 1, 0] (bodyOf Try.f20))) ⟨[x0, x1, x2, x3, undef, r652.1, undef, undef, r653.1, (Value.func (Fn.func 31) #[] #[]), undef, undef, x0, v654, (Value.func (Fn.func 31) #[] #[]), x2, r656.1, v657, v657, (gv (isB v657 false) (Value.func (Fn.func 31) #[] #[])), (gv (isB v657 false) x3), v658, r659.1, v660, v661, undef, undef, undef, undef, undef, undef, undef, undef, undef, undef, undef, undef, undef, undef, undef, undef, undef, undef, undef, undef, undef, undef, undef, undef, undef, undef, undef, undef, undef, undef, undef, undef, undef, undef, undef, undef, undef, undef, undef, undef, undef, undef, undef, undef, undef].toArray, []⟩ r659.2 (fun a w => s20K0 .normal a w)
    )
  )
noncomputable def s20 (x0 x1 x2 x3 : Value) (w : World) : Option (Value × World) :=
  (Xbox Try.prog 23 x1 w).bind fun r652 =>
  (Xalloc Try.prog 37 r652.2).bind fun r653 =>
  (Qbin Try.prog Go.BinOp.eql 24 x0 (Go.Value.pointer none)).bind fun v654 =>
  condK v654 (
    (Xstore Try.prog 37 r653.1 (Go.Value.int Go.IntKind.i64 1) r653.2).bind fun r655 =>
    ((((Qload Try.prog 37 r653.1 r655.2).bind fun v => ((some [])).map fun vs => v :: vs)).map oneOf).map fun v => (v, r655.2)
  ) (
    (Xcall Try.prog (Value.func (Fn.func 31) #[] #[]) #[x2] r653.2).bind fun r656 =>
    (Qun Go.UnOp.not r656.1).bind fun v657 =>
    (guardQ v657 false (Qlen Try.prog #[34] 3 #[(gv (isB v657 false) x3)] r656.2)).bind fun v658 =>
    (guardX v657 false r656.2 (Xcall Try.prog (gv (isB v657 false) (Value.func (Fn.func 31) #[] #[])) #[v658] r656.2)).bind fun r659 =>
    (guardQ v657 false (Qun Go.UnOp.not r659.1)).bind fun v660 =>
    (Qpick v657 (Go.Value.bool true) v660).bind fun v661 =>
    condK v661 (
      (Xstore Try.prog 37 r653.1 (Go.Value.int Go.IntKind.i64 2) r659.2).bind fun r662 =>
      ((((Qload Try.prog 37 r653.1 r662.2).bind fun v => ((some [])).map fun vs => v :: vs)).map oneOf).map fun v => (v, r662.2)
    ) (
      (evIdx Try.prog (opsOf (nav [1, 1, 1, 1, 0] (bodyOf Try.f20))) (Region.linearise .any (opsOf (nav [1, 1, 1, 1, 0] (bodyOf Try.f20))) (r659.2.tape r659.2.drawn (.order 20 6))) ⟨[x0, x1, x2, x3, undef, r652.1, undef, undef, r653.1, (Value.func (Fn.func 31) #[] #[]), undef, undef, x0, v654, (Value.func (Fn.func 31) #[] #[]), x2, r656.1, v657, v657, (gv (isB v657 false) (Value.func (Fn.func 31) #[] #[])), (gv (isB v657 false) x3), v658, r659.1, v660, v661, undef, undef, undef, undef, undef, undef, undef, undef, undef, undef, undef, undef, undef, undef, undef, undef, undef, undef, undef, undef, undef, undef, undef, undef, undef, undef, undef, undef, undef, undef, undef, undef, undef, undef, undef, undef, undef, undef, undef, undef, undef, undef, undef, undef, undef].toArray, []⟩ r659.2.drew).bind fun x => s20M0 (x.1.tmps.getD 0 undef) (x.1.tmps.getD 1 undef) (x.1.tmps.getD 2 undef) (x.1.tmps.getD 3 undef) (x.1.tmps.getD 4 undef) (x.1.tmps.getD 5 undef) (x.1.tmps.getD 6 undef) (x.1.tmps.getD 7 undef) (x.1.tmps.getD 8 undef) (x.1.tmps.getD 9 undef) (x.1.tmps.getD 10 undef) (x.1.tmps.getD 11 undef) (x.1.tmps.getD 12 undef) (x.1.tmps.getD 13 undef) (x.1.tmps.getD 14 undef) (x.1.tmps.getD 15 undef) (x.1.tmps.getD 16 undef) (x.1.tmps.getD 17 undef) (x.1.tmps.getD 18 undef) (x.1.tmps.getD 19 undef) (x.1.tmps.getD 20 undef) (x.1.tmps.getD 21 undef) (x.1.tmps.getD 22 undef) (x.1.tmps.getD 23 undef) (x.1.tmps.getD 24 undef) (x.1.tmps.getD 25 undef) (x.1.tmps.getD 26 undef) (x.1.tmps.getD 27 undef) (x.1.tmps.getD 28 undef) (x.1.tmps.getD 29 undef) (x.1.tmps.getD 30 undef) (x.1.tmps.getD 31 undef) (x.1.tmps.getD 32 undef) (x.1.tmps.getD 33 undef) (x.1.tmps.getD 34 undef) (x.1.tmps.getD 35 undef) (x.1.tmps.getD 36 undef) (x.1.tmps.getD 37 undef) (x.1.tmps.getD 38 undef) (x.1.tmps.getD 39 undef) (x.1.tmps.getD 40 undef) (x.1.tmps.getD 41 undef) (x.1.tmps.getD 42 undef) (x.1.tmps.getD 43 undef) (x.1.tmps.getD 44 undef) (x.1.tmps.getD 45 undef) (x.1.tmps.getD 46 undef) (x.1.tmps.getD 47 undef) (x.1.tmps.getD 48 undef) (x.1.tmps.getD 49 undef) (x.1.tmps.getD 50 undef) (x.1.tmps.getD 51 undef) (x.1.tmps.getD 52 undef) (x.1.tmps.getD 53 undef) (x.1.tmps.getD 54 undef) (x.1.tmps.getD 55 undef) (x.1.tmps.getD 56 undef) (x.1.tmps.getD 57 undef) (x.1.tmps.getD 58 undef) (x.1.tmps.getD 59 undef) (x.1.tmps.getD 60 undef) (x.1.tmps.getD 61 undef) (x.1.tmps.getD 62 undef) (x.1.tmps.getD 63 undef) (x.1.tmps.getD 64 undef) (x.1.tmps.getD 65 undef) (x.1.tmps.getD 66 undef) (x.1.tmps.getD 67 undef) (x.1.tmps.getD 68 undef) (x.1.tmps.getD 69 undef) [] x.2
    )
  )
theorem s20G1Rnrmeq (s0 s1 s2 s3 s4 s5 s6 s7 s8 s9 s10 s11 s12 s13 s14 s15 s16 s17 s18 s19 s20 s21 s22 s23 s24 s25 s26 s27 s28 s29 s30 s31 s32 s33 s34 s35 s36 s37 s38 s39 s40 s41 s42 s43 s44 s45 s46 s47 s48 s49 s50 s51 s52 s53 s54 s55 s56 s57 s58 s59 s60 s61 s62 s63 s64 s65 s66 s67 s68 s69 : Value) (d : List Deferred) (w : World) : s20K2 Exit.normal ⟨[s0, s1, s2, s3, s4, s5, s6, s7, s8, s9, s10, s11, s12, s13, s14, s15, s16, s17, s18, s19, s20, s21, s22, s23, s24, s25, s26, s27, s28, s29, s30, s31, s32, s33, s34, s35, s36, s37, s38, s39, s40, s41, s42, s43, s44, s45, s46, s47, s48, s49, s50, s51, s52, s53, s54, s55, s56, s57, s58, s59, s60, s61, s62, s63, s64, s65, s66, s67, s68, s69].toArray, d⟩ w = s20G1R s0 s2 s3 s8 s10 d w Exit.normal := by kernel_rfl
theorem s20G1Rx0eq (s0 s1 s2 s3 s4 s5 s6 s7 s8 s9 s10 s11 s12 s13 s14 s15 s16 s17 s18 s19 s20 s21 s22 s23 s24 s25 s26 s27 s28 s29 s30 s31 s32 s33 s34 s35 s36 s37 s38 s39 s40 s41 s42 s43 s44 s45 s46 s47 s48 s49 s50 s51 s52 s53 s54 s55 s56 s57 s58 s59 s60 s61 s62 s63 s64 s65 s66 s67 s68 s69 : Value) (d : List Deferred) (w : World) : s20K2 (Exit.exit 0) ⟨[s0, s1, s2, s3, s4, s5, s6, s7, s8, s9, s10, s11, s12, s13, s14, s15, s16, s17, s18, s19, s20, s21, s22, s23, s24, s25, s26, s27, s28, s29, s30, s31, s32, s33, s34, s35, s36, s37, s38, s39, s40, s41, s42, s43, s44, s45, s46, s47, s48, s49, s50, s51, s52, s53, s54, s55, s56, s57, s58, s59, s60, s61, s62, s63, s64, s65, s66, s67, s68, s69].toArray, d⟩ w = s20G1R s0 s2 s3 s8 s10 d w (Exit.exit 0) := by kernel_rfl
theorem s20G1Rreteq (s0 s1 s2 s3 s4 s5 s6 s7 s8 s9 s10 s11 s12 s13 s14 s15 s16 s17 s18 s19 s20 s21 s22 s23 s24 s25 s26 s27 s28 s29 s30 s31 s32 s33 s34 s35 s36 s37 s38 s39 s40 s41 s42 s43 s44 s45 s46 s47 s48 s49 s50 s51 s52 s53 s54 s55 s56 s57 s58 s59 s60 s61 s62 s63 s64 s65 s66 s67 s68 s69 : Value) (d : List Deferred) (w : World) : s20K2 Exit.ret ⟨[s0, s1, s2, s3, s4, s5, s6, s7, s8, s9, s10, s11, s12, s13, s14, s15, s16, s17, s18, s19, s20, s21, s22, s23, s24, s25, s26, s27, s28, s29, s30, s31, s32, s33, s34, s35, s36, s37, s38, s39, s40, s41, s42, s43, s44, s45, s46, s47, s48, s49, s50, s51, s52, s53, s54, s55, s56, s57, s58, s59, s60, s61, s62, s63, s64, s65, s66, s67, s68, s69].toArray, d⟩ w = s20G1R s0 s2 s3 s8 s10 d w Exit.ret := by kernel_rfl
theorem s20G1Rof {s0 s1 s2 s3 s4 s5 s6 s7 s8 s9 s10 s11 s12 s13 s14 s15 s16 s17 s18 s19 s20 s21 s22 s23 s24 s25 s26 s27 s28 s29 s30 s31 s32 s33 s34 s35 s36 s37 s38 s39 s40 s41 s42 s43 s44 s45 s46 s47 s48 s49 s50 s51 s52 s53 s54 s55 s56 s57 s58 s59 s60 s61 s62 s63 s64 s65 s66 s67 s68 s69 : Value} {d : List Deferred} {w : World} {e : Exit} {y : _} (h : s20G1R s0 s2 s3 s8 s10 d w e = some y) : s20K2 e ⟨[s0, s1, s2, s3, s4, s5, s6, s7, s8, s9, s10, s11, s12, s13, s14, s15, s16, s17, s18, s19, s20, s21, s22, s23, s24, s25, s26, s27, s28, s29, s30, s31, s32, s33, s34, s35, s36, s37, s38, s39, s40, s41, s42, s43, s44, s45, s46, s47, s48, s49, s50, s51, s52, s53, s54, s55, s56, s57, s58, s59, s60, s61, s62, s63, s64, s65, s66, s67, s68, s69].toArray, d⟩ w = some y := by
  unfold s20G1R at h
  split at h
  · exact (s20G1Rnrmeq _ _ _ _ _ _ _ _ _ _ _ _ _ _ _ _ _ _ _ _ _ _ _ _ _ _ _ _ _ _ _ _ _ _ _ _ _ _ _ _ _ _ _ _ _ _ _ _ _ _ _ _ _ _ _ _ _ _ _ _ _ _ _ _ _ _ _ _ _ _ _ _).trans h
  · exact (s20G1Rx0eq _ _ _ _ _ _ _ _ _ _ _ _ _ _ _ _ _ _ _ _ _ _ _ _ _ _ _ _ _ _ _ _ _ _ _ _ _ _ _ _ _ _ _ _ _ _ _ _ _ _ _ _ _ _ _ _ _ _ _ _ _ _ _ _ _ _ _ _ _ _ _ _).trans h
  · exact (s20G1Rreteq _ _ _ _ _ _ _ _ _ _ _ _ _ _ _ _ _ _ _ _ _ _ _ _ _ _ _ _ _ _ _ _ _ _ _ _ _ _ _ _ _ _ _ _ _ _ _ _ _ _ _ _ _ _ _ _ _ _ _ _ _ _ _ _ _ _ _ _ _ _ _ _).trans h
  · cases h
theorem s20G1Qeq (l : Nat) (s0 s1 s2 s3 s4 s5 s6 s7 s8 s9 s10 s11 s12 s13 s14 s15 s16 s17 s18 s19 s20 s21 s22 s23 s24 s25 s26 s27 s28 s29 s30 s31 s32 s33 s34 s35 s36 s37 s38 s39 s40 s41 s42 s43 s44 s45 s46 s47 s48 s49 s50 s51 s52 s53 s54 s55 s56 s57 s58 s59 s60 s61 s62 s63 s64 s65 s66 s67 s68 s69 : Value) (w : World) : roundE Try.prog l 20 [s0, s1, s2, s3, s4, s5, s6, s7, s8, s9, s10, s11, s12, s13, s14, s15, s16, s17, s18, s19, s20, s21, s22, s23, s24, s25, s26, s27, s28, s29, s30, s31, s32, s33, s34, s35, s36, s37, s38, s39, s40, s41, s42, s43, s44, s45, s46, s47, s48, s49, s50, s51, s52, s53, s54, s55, s56, s57, s58, s59, s60, s61, s62, s63, s64, s65, s66, s67, s68, s69].toArray (nav [1, 1, 1, 1, 1, 0, 1, 0, 0] (bodyOf Try.f20)) (nav [1, 1, 1, 1, 1, 0, 1, 0, 1] (bodyOf Try.f20)) w = s20G1Q l s5 s8 s10 s35 w := by kernel_rfl
theorem s20G1Qof {l : Nat} {s0 s1 s2 s3 s4 s5 s6 s7 s8 s9 s10 s11 s12 s13 s14 s15 s16 s17 s18 s19 s20 s21 s22 s23 s24 s25 s26 s27 s28 s29 s30 s31 s32 s33 s34 s35 s36 s37 s38 s39 s40 s41 s42 s43 s44 s45 s46 s47 s48 s49 s50 s51 s52 s53 s54 s55 s56 s57 s58 s59 s60 s61 s62 s63 s64 s65 s66 s67 s68 s69 : Value} {w : World} {r : Value × World} (h : s20G1Q l s5 s8 s10 s35 w = some r) : Rd Try.prog l 20 [s0, s1, s2, s3, s4, s5, s6, s7, s8, s9, s10, s11, s12, s13, s14, s15, s16, s17, s18, s19, s20, s21, s22, s23, s24, s25, s26, s27, s28, s29, s30, s31, s32, s33, s34, s35, s36, s37, s38, s39, s40, s41, s42, s43, s44, s45, s46, s47, s48, s49, s50, s51, s52, s53, s54, s55, s56, s57, s58, s59, s60, s61, s62, s63, s64, s65, s66, s67, s68, s69].toArray (nav [1, 1, 1, 1, 1, 0, 1, 0, 0] (bodyOf Try.f20)) (nav [1, 1, 1, 1, 1, 0, 1, 0, 1] (bodyOf Try.f20)) w = some r :=
  Rd_ev follows_all drawLaw (by kernel_rfl) ((s20G1Qeq l s0 s1 s2 s3 s4 s5 s6 s7 s8 s9 s10 s11 s12 s13 s14 s15 s16 s17 s18 s19 s20 s21 s22 s23 s24 s25 s26 s27 s28 s29 s30 s31 s32 s33 s34 s35 s36 s37 s38 s39 s40 s41 s42 s43 s44 s45 s46 s47 s48 s49 s50 s51 s52 s53 s54 s55 s56 s57 s58 s59 s60 s61 s62 s63 s64 s65 s66 s67 s68 s69 w).trans h)
theorem s20G1Qb {l : Nat} {s0 s1 s2 s3 s4 s5 s6 s7 s8 s9 s10 s11 s12 s13 s14 s15 s16 s17 s18 s19 s20 s21 s22 s23 s24 s25 s26 s27 s28 s29 s30 s31 s32 s33 s34 s35 s36 s37 s38 s39 s40 s41 s42 s43 s44 s45 s46 s47 s48 s49 s50 s51 s52 s53 s54 s55 s56 s57 s58 s59 s60 s61 s62 s63 s64 s65 s66 s67 s68 s69 : Value} {w : World} {Q : Value × World → Prop} (h : Brings (s20G1Q l s5 s8 s10 s35 w) Q) : Brings (Rd Try.prog l 20 [s0, s1, s2, s3, s4, s5, s6, s7, s8, s9, s10, s11, s12, s13, s14, s15, s16, s17, s18, s19, s20, s21, s22, s23, s24, s25, s26, s27, s28, s29, s30, s31, s32, s33, s34, s35, s36, s37, s38, s39, s40, s41, s42, s43, s44, s45, s46, s47, s48, s49, s50, s51, s52, s53, s54, s55, s56, s57, s58, s59, s60, s61, s62, s63, s64, s65, s66, s67, s68, s69].toArray (nav [1, 1, 1, 1, 1, 0, 1, 0, 0] (bodyOf Try.f20)) (nav [1, 1, 1, 1, 1, 0, 1, 0, 1] (bodyOf Try.f20)) w) Q := h.of_eq fun _ h => s20G1Qof h
theorem s20J0eq (s0 s1 s2 s3 s4 s5 s6 s7 s8 s9 s10 s11 s12 s13 s14 s15 s16 s17 s18 s19 s20 s21 s22 s23 s24 s25 s26 s27 s28 s29 s30 s31 s32 s33 s34 s35 s36 s37 s38 s39 s40 s41 s42 s43 s44 s45 s46 s47 s48 s49 s50 s51 s52 s53 s54 s55 s56 s57 s58 s59 s60 s61 s62 s63 s64 s65 s66 s67 s68 s69 : Value) (d : List Deferred) (w : World) : s20J0 [s0, s1, s2, s3, s4, s5, s6, s7, s8, s9, s10, s11, s12, s13, s14, s15, s16, s17, s18, s19, s20, s21, s22, s23, s24, s25, s26, s27, s28, s29, s30, s31, s32, s33, s34, s35, s36, s37, s38, s39, s40, s41, s42, s43, s44, s45, s46, s47, s48, s49, s50, s51, s52, s53, s54, s55, s56, s57, s58, s59, s60, s61, s62, s63, s64, s65, s66, s67, s68, s69] d w = s20M0raw s0 s1 s2 s3 s4 s5 s6 s7 s8 s9 s10 s11 s12 s13 s14 s15 s16 s17 s18 s19 s20 s21 s22 s23 s24 s25 s26 s27 s28 s29 s30 s31 s32 s33 s34 s35 s36 s37 s38 s39 s40 s41 s42 s43 s44 s45 s46 s47 s48 s49 s50 s51 s52 s53 s54 s55 s56 s57 s58 s59 s60 s61 s62 s63 s64 s65 s66 s67 s68 s69 d w := (show s20J0 [s0, s1, s2, s3, s4, s5, s6, s7, s8, s9, s10, s11, s12, s13, s14, s15, s16, s17, s18, s19, s20, s21, s22, s23, s24, s25, s26, s27, s28, s29, s30, s31, s32, s33, s34, s35, s36, s37, s38, s39, s40, s41, s42, s43, s44, s45, s46, s47, s48, s49, s50, s51, s52, s53, s54, s55, s56, s57, s58, s59, s60, s61, s62, s63, s64, s65, s66, s67, s68, s69] d w = evK Try.prog 20 none (nav [1, 1, 1, 1, 1] (bodyOf Try.f20)) none _ ⟨[s0, s1, s2, s3, s4, s5, s6, s7, s8, s9, s10, s11, s12, s13, s14, s15, s16, s17, s18, s19, s20, s21, s22, s23, s24, s25, s26, s27, s28, s29, s30, s31, s32, s33, s34, s35, s36, s37, s38, s39, s40, s41, s42, s43, s44, s45, s46, s47, s48, s49, s50, s51, s52, s53, s54, s55, s56, s57, s58, s59, s60, s61, s62, s63, s64, s65, s66, s67, s68, s69].toArray, d⟩ w (leaveK Try.prog Try.f20) from by kernel_rfl).trans (by kernel_rfl)
theorem s20J0of {s0 s1 s2 s3 s4 s5 s6 s7 s8 s9 s10 s11 s12 s13 s14 s15 s16 s17 s18 s19 s20 s21 s22 s23 s24 s25 s26 s27 s28 s29 s30 s31 s32 s33 s34 s35 s36 s37 s38 s39 s40 s41 s42 s43 s44 s45 s46 s47 s48 s49 s50 s51 s52 s53 s54 s55 s56 s57 s58 s59 s60 s61 s62 s63 s64 s65 s66 s67 s68 s69 : Value} {d : List Deferred} {w : World} {r : _} (h : s20M0 s0 s1 s2 s3 s4 s5 s6 s7 s8 s9 s10 s11 s12 s13 s14 s15 s16 s17 s18 s19 s20 s21 s22 s23 s24 s25 s26 s27 s28 s29 s30 s31 s32 s33 s34 s35 s36 s37 s38 s39 s40 s41 s42 s43 s44 s45 s46 s47 s48 s49 s50 s51 s52 s53 s54 s55 s56 s57 s58 s59 s60 s61 s62 s63 s64 s65 s66 s67 s68 s69 d w = some r) : s20J0 [s0, s1, s2, s3, s4, s5, s6, s7, s8, s9, s10, s11, s12, s13, s14, s15, s16, s17, s18, s19, s20, s21, s22, s23, s24, s25, s26, s27, s28, s29, s30, s31, s32, s33, s34, s35, s36, s37, s38, s39, s40, s41, s42, s43, s44, s45, s46, s47, s48, s49, s50, s51, s52, s53, s54, s55, s56, s57, s58, s59, s60, s61, s62, s63, s64, s65, s66, s67, s68, s69] d w = some r :=
  ((s20J0eq s0 s1 s2 s3 s4 s5 s6 s7 s8 s9 s10 s11 s12 s13 s14 s15 s16 s17 s18 s19 s20 s21 s22 s23 s24 s25 s26 s27 s28 s29 s30 s31 s32 s33 s34 s35 s36 s37 s38 s39 s40 s41 s42 s43 s44 s45 s46 s47 s48 s49 s50 s51 s52 s53 s54 s55 s56 s57 s58 s59 s60 s61 s62 s63 s64 s65 s66 s67 s68 s69 d w).trans ((Ev.bind_mono fun (r663 : Value × World) => (range_of (R := fun e d w => s20G1R s0 s2 s3 s8 s10 d w e) (fun e d w y h => s20G1Rof h))) h))
theorem s20J0fr (g : Nat → Value) (d : List Deferred) (w : World) : s20K0 .normal (frm 70 g d) w = s20J0 [g 0, g 1, g 2, g 3, g 4, g 5, g 6, g 7, g 8, g 9, g 10, g 11, g 12, g 13, g 14, g 15, g 16, g 17, g 18, g 19, g 20, g 21, g 22, g 23, g 24, g 25, g 26, g 27, g 28, g 29, g 30, g 31, g 32, g 33, g 34, g 35, g 36, g 37, g 38, g 39, g 40, g 41, g 42, g 43, g 44, g 45, g 46, g 47, g 48, g 49, g 50, g 51, g 52, g 53, g 54, g 55, g 56, g 57, g 58, g 59, g 60, g 61, g 62, g 63, g 64, g 65, g 66, g 67, g 68, g 69] d w := by kernel_rfl
theorem s20eq (x0 x1 x2 x3 : Value) (w : World) : evK Try.prog 20 none (bodyOf Try.f20) none _ { tmps := (([x0, x1, x2, x3] : List Value) ++ List.replicate (70 - 4) undef).toArray, defers := [] } w (leaveK Try.prog Try.f20) = s20raw x0 x1 x2 x3 w := by kernel_rfl
theorem c20 {x0 x1 x2 x3 : Value} {w : World} {r : Value × World} (h : s20 x0 x1 x2 x3 w = some r) : C Try.prog 20 #[x0, x1, x2, x3] w = some r :=
  C_ev follows_all drawLaw (by kernel_rfl) Try.func20 (by rfl) ((s20eq x0 x1 x2 x3 w).trans (show s20raw x0 x1 x2 x3 w = some r from (Ev.bind_mono fun (r652 : Value × World) => (Ev.bind_mono fun (r653 : Value × World) => (Ev.bind_mono fun (v654 : Value) => (condK_mono id (Ev.bind_mono fun (r656 : Value × World) => (Ev.bind_mono fun (v657 : Value) => (Ev.bind_mono fun (v658 : Value) => (Ev.bind_mono fun (r659 : Value × World) => (Ev.bind_mono fun (v660 : Value) => (Ev.bind_mono fun (v661 : Value) => (condK_mono id (evDraw_tape (n := 70) (M := fun g w => s20M0 (g 0) (g 1) (g 2) (g 3) (g 4) (g 5) (g 6) (g 7) (g 8) (g 9) (g 10) (g 11) (g 12) (g 13) (g 14) (g 15) (g 16) (g 17) (g 18) (g 19) (g 20) (g 21) (g 22) (g 23) (g 24) (g 25) (g 26) (g 27) (g 28) (g 29) (g 30) (g 31) (g 32) (g 33) (g 34) (g 35) (g 36) (g 37) (g 38) (g 39) (g 40) (g 41) (g 42) (g 43) (g 44) (g 45) (g 46) (g 47) (g 48) (g 49) (g 50) (g 51) (g 52) (g 53) (g 54) (g 55) (g 56) (g 57) (g 58) (g 59) (g 60) (g 61) (g 62) (g 63) (g 64) (g 65) (g 66) (g 67) (g 68) (g 69) [] w) (by kernel_rfl) (by rfl) rfl (fun g w y h => (s20J0fr g [] w).trans (s20J0of h)))))))))))))) h))
theorem e20 {x0 x1 x2 x3 : Value} {w : World} {Q : Value × World → Prop} (h : Brings (s20 x0 x1 x2 x3 w) Q) : Brings (Xcall Try.prog (Value.func (Fn.func 20) #[] #[]) #[x0, x1, x2, x3] w) Q :=
  h.call (Xcall_fn Try.func20 (by decide +kernel) (by rfl) _ _ _ w) fun _ h => c20 h

/-! (*lychgate/seqadj.Stream).Len -/
noncomputable def s21 (x0 : Value) (w : World) : Option (Value × World) :=
  (Qbin Try.prog Go.BinOp.eql 24 x0 (Go.Value.pointer none)).bind fun v727 =>
  condK v727 (
    some ((Go.Value.int Go.IntKind.i64 0), w)
  ) (
    (Qnil x0).bind fun v728 =>
    (QfieldAddr Try.prog 66 v728 0).bind fun v729 =>
    (Qload Try.prog 64 v729 w).bind fun v730 =>
    (Qlen Try.prog #[64] 3 #[v730] w).bind fun v731 =>
    some (v731, w)
  )
theorem s21eq (x0 : Value) (w : World) : evK Try.prog 21 none (bodyOf Try.f21) none _ { tmps := (([x0] : List Value) ++ List.replicate (10 - 1) undef).toArray, defers := [] } w (leaveK Try.prog Try.f21) = s21 x0 w := by kernel_rfl
theorem c21 {x0 : Value} {w : World} {r : Value × World} (h : s21 x0 w = some r) : C Try.prog 21 #[x0] w = some r :=
  C_ev follows_all drawLaw (by kernel_rfl) Try.func21 (by rfl) ((s21eq x0 w).trans h)
theorem e21 {x0 : Value} {w : World} {Q : Value × World → Prop} (h : Brings (s21 x0 w) Q) : Brings (Xcall Try.prog (Value.func (Fn.func 21) #[] #[]) #[x0] w) Q :=
  h.call (Xcall_fn Try.func21 (by decide +kernel) (by rfl) _ _ _ w) fun _ h => c21 h

/-! lychgate/lychgatelaw11.same -/
noncomputable def s22 (x0 x1 x2 x3 : Value) (w : World) : Option (Value × World) :=
  (Xbox Try.prog 41 x2 w).bind fun r732 =>
  (QfieldAddr Try.prog 41 r732.1 0).bind fun v733 =>
  (Qload Try.prog 23 v733 r732.2).bind fun v734 =>
  (QfieldAddr Try.prog 41 r732.1 1).bind fun v735 =>
  (Qload Try.prog 3 v735 r732.2).bind fun v736 =>
  (Xcall Try.prog (Value.func (Fn.func 23) #[] #[]) #[x0, v734, v736] r732.2).bind fun r737 =>
  (Qext r737.1 0).bind fun v738 =>
  (Qext r737.1 1).bind fun v739 =>
  (QfieldAddr Try.prog 41 r732.1 0).bind fun v740 =>
  (Qload Try.prog 23 v740 r737.2).bind fun v741 =>
  (QfieldAddr Try.prog 41 r732.1 1).bind fun v742 =>
  (Qload Try.prog 3 v742 r737.2).bind fun v743 =>
  (Xcall Try.prog (Value.func (Fn.func 33) #[] #[]) #[x1, v741, v743] r737.2).bind fun r744 =>
  (Qext r744.1 0).bind fun v745 =>
  (Qext r744.1 1).bind fun v746 =>
  (Xconv Try.prog 34 9 v738 r744.2).bind fun r747 =>
  (Xconv Try.prog 34 9 v745 r747.2).bind fun r748 =>
  (Qbin Try.prog Go.BinOp.eql 9 r747.1 r748.1).bind fun v749 =>
  (guardQ v749 true (Qbin Try.prog Go.BinOp.eql 4 (gv (isB v749 true) v739) (gv (isB v749 true) v746))).bind fun v750 =>
  (Qpick v749 v750 (Go.Value.bool false)).bind fun v751 =>
  (guardX v751 true r748.2 (Xcall Try.prog (Value.func (Fn.func 17) #[] #[]) #[(gv (isB v751 true) x0), (gv (isB v751 true) x3)] r748.2)).bind fun r752 =>
  (guardX v751 true r752.2 (Xcall Try.prog (Value.func (Fn.func 34) #[] #[]) #[(gv (isB v751 true) x1), (gv (isB v751 true) x3)] r752.2)).bind fun r753 =>
  (guardQ v751 true (Qbin Try.prog Go.BinOp.eql 23 r752.1 r753.1)).bind fun v754 =>
  (Qpick v751 v754 (Go.Value.bool false)).bind fun v755 =>
  (guardX v755 true r753.2 (Xcall Try.prog (Value.func (Fn.func 16) #[] #[]) #[(gv (isB v755 true) x0), (gv (isB v755 true) x3)] r753.2)).bind fun r756 =>
  (guardX v755 true r756.2 (Xcall Try.prog (Value.func (Fn.func 35) #[] #[]) #[(gv (isB v755 true) x1), (gv (isB v755 true) x3)] r756.2)).bind fun r757 =>
  (guardQ v755 true (Qbin Try.prog Go.BinOp.eql 23 r756.1 r757.1)).bind fun v758 =>
  (Qpick v755 v758 (Go.Value.bool false)).bind fun v759 =>
  (guardX v759 true r757.2 (Xcall Try.prog (Value.func (Fn.func 21) #[] #[]) #[(gv (isB v759 true) x0)] r757.2)).bind fun r760 =>
  (guardX v759 true r760.2 (Xcall Try.prog (Value.func (Fn.func 36) #[] #[]) #[(gv (isB v759 true) x1)] r760.2)).bind fun r761 =>
  (guardQ v759 true (Qbin Try.prog Go.BinOp.eql 3 r760.1 r761.1)).bind fun v762 =>
  (Qpick v759 v762 (Go.Value.bool false)).bind fun v763 =>
  some (v763, r761.2)
theorem s22eq (x0 x1 x2 x3 : Value) (w : World) : evK Try.prog 22 none (bodyOf Try.f22) none _ { tmps := (([x0, x1, x2, x3] : List Value) ++ List.replicate (66 - 4) undef).toArray, defers := [] } w (leaveK Try.prog Try.f22) = s22 x0 x1 x2 x3 w := by kernel_rfl
theorem c22 {x0 x1 x2 x3 : Value} {w : World} {r : Value × World} (h : s22 x0 x1 x2 x3 w = some r) : C Try.prog 22 #[x0, x1, x2, x3] w = some r :=
  C_ev follows_all drawLaw (by kernel_rfl) Try.func22 (by rfl) ((s22eq x0 x1 x2 x3 w).trans h)
theorem e22 {x0 x1 x2 x3 : Value} {w : World} {Q : Value × World → Prop} (h : Brings (s22 x0 x1 x2 x3 w) Q) : Brings (Xcall Try.prog (Value.func (Fn.func 22) #[] #[]) #[x0, x1, x2, x3] w) Q :=
  h.call (Xcall_fn Try.func22 (by decide +kernel) (by rfl) _ _ _ w) fun _ h => c22 h

/-! (*lychgate/seqadj.Stream).Find -/
noncomputable def s23 (x0 x1 x2 : Value) (w : World) : Option (Value × World) :=
  (Xbox Try.prog 23 x1 w).bind fun r764 =>
  (Xbox Try.prog 3 x2 r764.2).bind fun r765 =>
  (Qbin Try.prog Go.BinOp.eql 24 x0 (Go.Value.pointer none)).bind fun v766 =>
  (guardQ v766 false (Qload Try.prog 3 r765.1 r765.2)).bind fun v767 =>
  (guardQ v766 false (Qbin Try.prog Go.BinOp.lss 3 v767 (Go.Value.int Go.IntKind.i64 1))).bind fun v768 =>
  (Qpick v766 (Go.Value.bool true) v768).bind fun v769 =>
  (guardQ v769 false (Qload Try.prog 3 r765.1 r765.2)).bind fun v770 =>
  (guardQ v769 false (Qbin Try.prog Go.BinOp.gtr 3 v770 (Go.Value.int Go.IntKind.i64 128))).bind fun v771 =>
  (Qpick v769 (Go.Value.bool true) v771).bind fun v772 =>
  condK v772 (
    some ((Value.tuple #[(Go.Value.slice none 0 0), (Go.Value.bool false)]), r765.2)
  ) (
    (Qnil x0).bind fun v773 =>
    (QfieldAddr Try.prog 66 v773 0).bind fun v774 =>
    (Qload Try.prog 64 v774 r765.2).bind fun v775 =>
    (some (Value.func (Go.Fn.func 38) #[] #[r764.1, r765.1])).bind fun v776 =>
    (Xcall Try.prog (Value.func (Fn.func 37) #[] #[]) #[v775, v776] r765.2).bind fun r777 =>
    (Qbin Try.prog Go.BinOp.lss 3 r777.1 (Go.Value.int Go.IntKind.i64 0)).bind fun v778 =>
    condK v778 (
      some ((Value.tuple #[(Go.Value.slice none 0 0), (Go.Value.bool false)]), r777.2)
    ) (
      (Qnil x0).bind fun v779 =>
      (QfieldAddr Try.prog 66 v779 0).bind fun v780 =>
      (Qload Try.prog 64 v780 r777.2).bind fun v781 =>
      (QindexAddr Try.prog 64 v781 r777.1 r777.2).bind fun v782 =>
      (QfieldAddr Try.prog 63 v782 4).bind fun v783 =>
      (Qload Try.prog 34 v783 r777.2).bind fun v784 =>
      (Xcall Try.prog (Value.func (Fn.func 32) #[] #[]) #[v784] r777.2).bind fun r785 =>
      some ((Value.tuple #[r785.1, (Go.Value.bool true)]), r785.2)
    )
  )
theorem s23eq (x0 x1 x2 : Value) (w : World) : evK Try.prog 23 none (bodyOf Try.f23) none _ { tmps := (([x0, x1, x2] : List Value) ++ List.replicate (36 - 3) undef).toArray, defers := [] } w (leaveK Try.prog Try.f23) = s23 x0 x1 x2 w := by kernel_rfl
theorem c23 {x0 x1 x2 : Value} {w : World} {r : Value × World} (h : s23 x0 x1 x2 w = some r) : C Try.prog 23 #[x0, x1, x2] w = some r :=
  C_ev follows_all drawLaw (by kernel_rfl) Try.func23 (by rfl) ((s23eq x0 x1 x2 w).trans h)
theorem e23 {x0 x1 x2 : Value} {w : World} {Q : Value × World → Prop} (h : Brings (s23 x0 x1 x2 w) Q) : Brings (Xcall Try.prog (Value.func (Fn.func 23) #[] #[]) #[x0, x1, x2] w) Q :=
  h.call (Xcall_fn Try.func23 (by decide +kernel) (by rfl) _ _ _ w) fun _ h => c23 h

/-! (*lychgate/seqadj.Stream).Fork -/
noncomputable def s24 (x0 : Value) (w : World) : Option (Value × World) :=
  (Qbin Try.prog Go.BinOp.eql 24 x0 (Go.Value.pointer none)).bind fun v786 =>
  condK v786 (
    some ((Go.Value.pointer none), w)
  ) (
    (Qnil x0).bind fun v787 =>
    (QfieldAddr Try.prog 66 v787 0).bind fun v788 =>
    (Qload Try.prog 64 v788 w).bind fun v789 =>
    (Xcall Try.prog (Value.func (Fn.func 39) #[] #[]) #[v789] w).bind fun r790 =>
    (Qbuild Try.prog 66 #[(0, r790.1)] r790.2).bind fun v791 =>
    (Xbox Try.prog 66 v791 r790.2).bind fun r792 =>
    some (r792.1, r792.2)
  )
theorem s24eq (x0 : Value) (w : World) : evK Try.prog 24 none (bodyOf Try.f24) none _ { tmps := (([x0] : List Value) ++ List.replicate (12 - 1) undef).toArray, defers := [] } w (leaveK Try.prog Try.f24) = s24 x0 w := by kernel_rfl
theorem c24 {x0 : Value} {w : World} {r : Value × World} (h : s24 x0 w = some r) : C Try.prog 24 #[x0] w = some r :=
  C_ev follows_all drawLaw (by kernel_rfl) Try.func24 (by rfl) ((s24eq x0 w).trans h)
theorem e24 {x0 : Value} {w : World} {Q : Value × World → Prop} (h : Brings (s24 x0 w) Q) : Brings (Xcall Try.prog (Value.func (Fn.func 24) #[] #[]) #[x0] w) Q :=
  h.call (Xcall_fn Try.func24 (by decide +kernel) (by rfl) _ _ _ w) fun _ h => c24 h

/-! lychgate/lychgatetop.few -/
noncomputable def s25 (x0 x1 : Value) (w : World) : Option (Value × World) :=
  (Qlen Try.prog #[34] 3 #[x0] w).bind fun v793 =>
  (Qbin Try.prog Go.BinOp.gtr 3 v793 x1).bind fun v794 =>
  condK v794 (
    (Qslice Try.prog 34 x0 none (some x1) none w).bind fun v795 =>
    some (v795, w)
  ) (
    some (x0, w)
  )
theorem s25eq (x0 x1 : Value) (w : World) : evK Try.prog 25 none (bodyOf Try.f25) none _ { tmps := (([x0, x1] : List Value) ++ List.replicate (13 - 2) undef).toArray, defers := [] } w (leaveK Try.prog Try.f25) = s25 x0 x1 w := by kernel_rfl
theorem c25 {x0 x1 : Value} {w : World} {r : Value × World} (h : s25 x0 x1 w = some r) : C Try.prog 25 #[x0, x1] w = some r :=
  C_ev follows_all drawLaw (by kernel_rfl) Try.func25 (by rfl) ((s25eq x0 x1 w).trans h)
theorem e25 {x0 x1 : Value} {w : World} {Q : Value × World → Prop} (h : Brings (s25 x0 x1 w) Q) : Brings (Xcall Try.prog (Value.func (Fn.func 25) #[] #[]) #[x0, x1] w) Q :=
  h.call (Xcall_fn Try.func25 (by decide +kernel) (by rfl) _ _ _ w) fun _ h => c25 h

/-! lychgate/lychgatetop.replaced -/
noncomputable def s26 (x0 x1 x2 x3 : Value) (w : World) : Option (Value × World) :=
  (XbuildSlice Try.prog 34 0 #[] w).bind fun r796 =>
  (Qslice Try.prog 34 x0 none (some x1) none r796.2).bind fun v797 =>
  (Xbi Try.prog Go.Builtin.append #[34, 34] 34 #[r796.1, v797] r796.2).bind fun r798 =>
  (Xbi Try.prog Go.Builtin.append #[34, 34] 34 #[r798.1, x3] r798.2).bind fun r799 =>
  (Qbin Try.prog Go.BinOp.add 3 x1 x2).bind fun v800 =>
  (Qslice Try.prog 34 x0 (some v800) none none r799.2).bind fun v801 =>
  (Xbi Try.prog Go.Builtin.append #[34, 34] 34 #[r799.1, v801] r799.2).bind fun r802 =>
  some (r802.1, r802.2)
theorem s26eq (x0 x1 x2 x3 : Value) (w : World) : evK Try.prog 26 none (bodyOf Try.f26) none _ { tmps := (([x0, x1, x2, x3] : List Value) ++ List.replicate (25 - 4) undef).toArray, defers := [] } w (leaveK Try.prog Try.f26) = s26 x0 x1 x2 x3 w := by kernel_rfl
theorem c26 {x0 x1 x2 x3 : Value} {w : World} {r : Value × World} (h : s26 x0 x1 x2 x3 w = some r) : C Try.prog 26 #[x0, x1, x2, x3] w = some r :=
  C_ev follows_all drawLaw (by kernel_rfl) Try.func26 (by rfl) ((s26eq x0 x1 x2 x3 w).trans h)
theorem e26 {x0 x1 x2 x3 : Value} {w : World} {Q : Value × World → Prop} (h : Brings (s26 x0 x1 x2 x3 w) Q) : Brings (Xcall Try.prog (Value.func (Fn.func 26) #[] #[]) #[x0, x1, x2, x3] w) Q :=
  h.call (Xcall_fn Try.func26 (by decide +kernel) (by rfl) _ _ _ w) fun _ h => c26 h

/-! lychgate/lychgateref11.New -/
noncomputable def s27 (w : World) : Option (Value × World) :=
  (Qbuild Try.prog 74 #[] w).bind fun v803 =>
  (Xbox Try.prog 74 v803 w).bind fun r804 =>
  some (r804.1, r804.2)
theorem s27eq (w : World) : evK Try.prog 27 none (bodyOf Try.f27) none _ { tmps := (([] : List Value) ++ List.replicate (3 - 0) undef).toArray, defers := [] } w (leaveK Try.prog Try.f27) = s27  w := by kernel_rfl
theorem c27 {w : World} {r : Value × World} (h : s27  w = some r) : C Try.prog 27 #[] w = some r :=
  C_ev follows_all drawLaw (by kernel_rfl) Try.func27 (by rfl) ((s27eq  w).trans h)
theorem e27 {w : World} {Q : Value × World → Prop} (h : Brings (s27  w) Q) : Brings (Xcall Try.prog (Value.func (Fn.func 27) #[] #[]) #[] w) Q :=
  h.call (Xcall_fn Try.func27 (by decide +kernel) (by rfl) _ _ _ w) fun _ h => c27 h

/-! (*lychgate/lychgateref11.Stream).Add -/
noncomputable def s28 (x0 x1 x2 x3 : Value) (w : World) : Option (Value × World) :=
  (Qbin Try.prog Go.BinOp.eql 25 x0 (Go.Value.pointer none)).bind fun v805 =>
  condK v805 (
    some ((Go.Value.int Go.IntKind.i64 1), w)
  ) (
    (Qbin Try.prog Go.BinOp.lss 3 x2 (Go.Value.int Go.IntKind.i64 1)).bind fun v806 =>
    (guardQ v806 false (Qbin Try.prog Go.BinOp.gtr 3 (gv (isB v806 false) x2) (Go.Value.int Go.IntKind.i64 128))).bind fun v807 =>
    (Qpick v806 (Go.Value.bool true) v807).bind fun v808 =>
    (guardQ v808 false (Qlen Try.prog #[34] 3 #[(gv (isB v808 false) x3)] w)).bind fun v809 =>
    (guardQ v808 false (Qbin Try.prog Go.BinOp.lss 3 v809 (Go.Value.int Go.IntKind.i64 1))).bind fun v810 =>
    (Qpick v808 (Go.Value.bool true) v810).bind fun v811 =>
    (guardQ v811 false (Qlen Try.prog #[34] 3 #[(gv (isB v811 false) x3)] w)).bind fun v812 =>
    (guardQ v811 false (Qbin Try.prog Go.BinOp.gtr 3 v812 (Go.Value.int Go.IntKind.i64 128))).bind fun v813 =>
    (Qpick v811 (Go.Value.bool true) v813).bind fun v814 =>
    condK v814 (
      some ((Go.Value.int Go.IntKind.i64 2), w)
    ) (
      (Qnil x0).bind fun v815 =>
      (QfieldAddr Try.prog 74 v815 0).bind fun v816 =>
      (Qload Try.prog 72 v816 w.drew).bind fun v817 =>
      (Qlen Try.prog #[72] 3 #[v817] w.drew).bind fun v818 =>
      (Qbin Try.prog Go.BinOp.gtr 3 v818 (Go.Value.int Go.IntKind.i64 0)).bind fun v819 =>
      (guardQ v819 true (Qnil (gv (isB v819 true) x0))).bind fun v820 =>
      (guardQ v819 true (QfieldAddr Try.prog 74 v820 0)).bind fun v821 =>
      (guardQ v819 true (Qload Try.prog 72 v821 w.drew)).bind fun v822 =>
      (guardQ v819 true (Qnil (gv (isB v819 true) x0))).bind fun v823 =>
      (guardQ v819 true (QfieldAddr Try.prog 74 v823 0)).bind fun v824 =>
      (guardQ v819 true (Qload Try.prog 72 v824 w.drew)).bind fun v825 =>
      (guardQ v819 true (Qlen Try.prog #[72] 3 #[v825] w.drew)).bind fun v826 =>
      (guardQ v819 true (Qbin Try.prog Go.BinOp.sub 3 v826 (Go.Value.int Go.IntKind.i64 1))).bind fun v827 =>
      (guardQ v819 true (QindexAddr Try.prog 72 v822 v827 w.drew)).bind fun v828 =>
      (guardQ v819 true (Qload Try.prog 76 v828 w.drew)).bind fun v829 =>
      (guardX v819 true w.drew (Xcall Try.prog (Value.func (Fn.func 40) #[] #[]) #[v829] w.drew)).bind fun r830 =>
      (guardX v819 true r830.2 (Xcall Try.prog (Value.func (Fn.func 18) #[] #[]) #[(gv (isB v819 true) x1), r830.1] r830.2)).bind fun r831 =>
      (guardQ v819 true (Qbin Try.prog Go.BinOp.lss 3 r831.1 (Go.Value.int Go.IntKind.i64 0))).bind fun v832 =>
      (Qpick v819 v832 (Go.Value.bool false)).bind fun v833 =>
      chkK True (
        condK v833 (
          some ((Go.Value.int Go.IntKind.i64 2), r831.2)
        ) (
          (Qnil x0).bind fun v834 =>
          (QfieldAddr Try.prog 74 v834 0).bind fun v835 =>
          (Qload Try.prog 72 v835 r831.2).bind fun v836 =>
          (Qlen Try.prog #[72] 3 #[v836] r831.2).bind fun v837 =>
          (Qbin Try.prog Go.BinOp.geq 3 v837 (Go.Value.int Go.IntKind.i64 8)).bind fun v838 =>
          condK v838 (
            some ((Go.Value.int Go.IntKind.i64 9), r831.2)
          ) (
            (Qnil x0).bind fun v839 =>
            (QfieldAddr Try.prog 74 v839 0).bind fun v840 =>
            (Qload Try.prog 72 v840 r831.2.drew).bind fun v841 =>
            (XbuildSlice Try.prog 34 0 #[] r831.2.drew).bind fun r842 =>
            (Xbi Try.prog Go.Builtin.append #[34, 34] 34 #[r842.1, x3] r842.2).bind fun r843 =>
            (Qbuild Try.prog 76 #[(0, x1), (1, x2), (2, r843.1)] r843.2).bind fun v844 =>
            (XbuildSlice Try.prog 72 1 #[(0, v844)] r843.2).bind fun r845 =>
            (Xbi Try.prog Go.Builtin.append #[72, 72] 72 #[v841, r845.1] r845.2).bind fun r846 =>
            (Qnil x0).bind fun v847 =>
            (QfieldAddr Try.prog 74 v847 0).bind fun v848 =>
            (Xstore Try.prog 72 v848 r846.1 r846.2).bind fun r849 =>
            chkK ((Qload Try.prog 72 v840 r831.2.drew = some v841 ∧ Qload Try.prog 72 v840 r842.2 = some v841) ∧ ((Qload Try.prog 72 v840 r842.2 = some v841 ∧ Qload Try.prog 72 v840 r843.2 = some v841) ∧ ((Qload Try.prog 72 v840 r843.2 = some v841 ∧ Qload Try.prog 72 v840 r845.2 = some v841) ∧ True))) (
              some ((Go.Value.int Go.IntKind.i64 0), r849.2)
            )
          )
        )
      )
    )
  )
theorem s28eq (x0 x1 x2 x3 : Value) (w : World) : evK Try.prog 28 none (bodyOf Try.f28) none _ { tmps := (([x0, x1, x2, x3] : List Value) ++ List.replicate (76 - 4) undef).toArray, defers := [] } w (leaveK Try.prog Try.f28) = s28 x0 x1 x2 x3 w := by kernel_rfl
theorem c28 {x0 x1 x2 x3 : Value} {w : World} {r : Value × World} (h : s28 x0 x1 x2 x3 w = some r) : C Try.prog 28 #[x0, x1, x2, x3] w = some r :=
  C_ev follows_all drawLaw (by kernel_rfl) Try.func28 (by rfl) ((s28eq x0 x1 x2 x3 w).trans h)
theorem e28 {x0 x1 x2 x3 : Value} {w : World} {Q : Value × World → Prop} (h : Brings (s28 x0 x1 x2 x3 w) Q) : Brings (Xcall Try.prog (Value.func (Fn.func 28) #[] #[]) #[x0, x1, x2, x3] w) Q :=
  h.call (Xcall_fn Try.func28 (by decide +kernel) (by rfl) _ _ _ w) fun _ h => c28 h

/-! (*lychgate/seqadj.Stream).last -/
noncomputable def s29 (x0 : Value) (w : World) : Option (Value × World) :=
  (Xbox Try.prog 24 x0 w).bind fun r850 =>
  (some (Value.func (Go.Fn.func 41) #[] #[r850.1])).bind fun v851 =>
  some (v851, r850.2)
theorem s29eq (x0 : Value) (w : World) : evK Try.prog 29 none (bodyOf Try.f29) none _ { tmps := (([x0] : List Value) ++ List.replicate (4 - 1) undef).toArray, defers := [] } w (leaveK Try.prog Try.f29) = s29 x0 w := by kernel_rfl
theorem c29 {x0 : Value} {w : World} {r : Value × World} (h : s29 x0 w = some r) : C Try.prog 29 #[x0] w = some r :=
  C_ev follows_all drawLaw (by kernel_rfl) Try.func29 (by rfl) ((s29eq x0 w).trans h)
theorem e29 {x0 : Value} {w : World} {Q : Value × World → Prop} (h : Brings (s29 x0 w) Q) : Brings (Xcall Try.prog (Value.func (Fn.func 29) #[] #[]) #[x0] w) Q :=
  h.call (Xcall_fn Try.func29 (by decide +kernel) (by rfl) _ _ _ w) fun _ h => c29 h

/-! lychgate/wire.Ahead -/
noncomputable def s30 (x0 x1 : Value) (w : World) : Option (Value × World) :=
  (Qbin Try.prog Go.BinOp.sub 23 x0 x1).bind fun v852 =>
  (Qconv Try.prog 23 21 v852).bind fun v853 =>
  (Qconv Try.prog 21 3 v853).bind fun v854 =>
  some (v854, w)
theorem s30eq (x0 x1 : Value) (w : World) : evK Try.prog 30 none (bodyOf Try.f30) none _ { tmps := (([x0, x1] : List Value) ++ List.replicate (10 - 2) undef).toArray, defers := [] } w (leaveK Try.prog Try.f30) = s30 x0 x1 w := by kernel_rfl
theorem c30 {x0 x1 : Value} {w : World} {r : Value × World} (h : s30 x0 x1 w = some r) : C Try.prog 30 #[x0, x1] w = some r :=
  C_ev follows_all drawLaw (by kernel_rfl) Try.func30 (by rfl) ((s30eq x0 x1 w).trans h)
theorem e30 {x0 x1 : Value} {w : World} {Q : Value × World → Prop} (h : Brings (s30 x0 x1 w) Q) : Brings (Xcall Try.prog (Value.func (Fn.func 30) #[] #[]) #[x0, x1] w) Q :=
  h.call (Xcall_fn Try.func30 (by decide +kernel) (by rfl) _ _ _ w) fun _ h => c30 h

/-! (*lychgate/seqadj.Stream).Add$1 -/
noncomputable def s31 (x0 : Value) (w : World) : Option (Value × World) :=
  (Qbin Try.prog Go.BinOp.geq 3 x0 (Go.Value.int Go.IntKind.i64 1)).bind fun v855 =>
  (guardQ v855 true (Qbin Try.prog Go.BinOp.leq 3 (gv (isB v855 true) x0) (Go.Value.int Go.IntKind.i64 128))).bind fun v856 =>
  (Qpick v855 v856 (Go.Value.bool false)).bind fun v857 =>
  some (v857, w)
theorem s31eq (x0 : Value) (w : World) : evK Try.prog 31 none (bodyOf Try.f31) none _ { tmps := (([x0] : List Value) ++ List.replicate (9 - 1) undef).toArray, defers := [] } w (leaveK Try.prog Try.f31) = s31 x0 w := by kernel_rfl
theorem c31 {x0 : Value} {w : World} {r : Value × World} (h : s31 x0 w = some r) : C Try.prog 31 #[x0] w = some r :=
  C_ev follows_all drawLaw (by kernel_rfl) Try.func31 (by rfl) ((s31eq x0 w).trans h)
theorem e31 {x0 : Value} {w : World} {Q : Value × World → Prop} (h : Brings (s31 x0 w) Q) : Brings (Xcall Try.prog (Value.func (Fn.func 31) #[] #[]) #[x0] w) Q :=
  h.call (Xcall_fn Try.func31 (by decide +kernel) (by rfl) _ _ _ w) fun _ h => c31 h

/-! slices.Clone[[]byte,byte] -/
noncomputable def s32 (x0 : Value) (w : World) : Option (Value × World) :=
  (Qbin Try.prog Go.BinOp.eql 34 x0 (Go.Value.slice none 0 0)).bind fun v858 =>
  condK v858 (
    some ((Go.Value.slice none 0 0), w)
  ) (
    (XbuildSlice Try.prog 34 0 #[] w).bind fun r859 =>
    (Xbi Try.prog Go.Builtin.append #[34, 34] 34 #[r859.1, x0] r859.2).bind fun r860 =>
    some (r860.1, r860.2)
  )
theorem s32eq (x0 : Value) (w : World) : evK Try.prog 32 none (bodyOf Try.f32) none _ { tmps := (([x0] : List Value) ++ List.replicate (8 - 1) undef).toArray, defers := [] } w (leaveK Try.prog Try.f32) = s32 x0 w := by kernel_rfl
theorem c32 {x0 : Value} {w : World} {r : Value × World} (h : s32 x0 w = some r) : C Try.prog 32 #[x0] w = some r :=
  C_ev follows_all drawLaw (by kernel_rfl) Try.func32 (by rfl) ((s32eq x0 w).trans h)
theorem e32 {x0 : Value} {w : World} {Q : Value × World → Prop} (h : Brings (s32 x0 w) Q) : Brings (Xcall Try.prog (Value.func (Fn.func 32) #[] #[]) #[x0] w) Q :=
  h.call (Xcall_fn Try.func32 (by decide +kernel) (by rfl) _ _ _ w) fun _ h => c32 h

/-! (*lychgate/lychgateref11.Stream).Find -/
noncomputable def s33K0 : Exit → Act → World → Option (Value × World) := seqK (fun a w => evK Try.prog 33 none (nav [1, 1] (bodyOf Try.f33)) none _ a w (leaveK Try.prog Try.f33)) (leaveK Try.prog Try.f33)
noncomputable def s33K1 : Exit → Act → World → Option (Value × World) := blockK 0 s33K0
noncomputable def s33L0 (s : List Value) (d : List Deferred) (w : World) : Option (Value × World) := loopN Try.prog 33 none (nav [1, 0, 1, 0, 0] (bodyOf Try.f33)) s33K1 s d w
noncomputable def s33B0 : List Value → World → Option (Exit × List Value × World)
  | [x0, x1, x2, x6, x7, x8], w =>
    (Qbin Try.prog Go.BinOp.neq 25 x0 (Go.Value.pointer none)).bind fun v861 =>
    (guardQ v861 true (Qnil (gv (isB v861 true) x0))).bind fun v862 =>
    (guardQ v861 true (QfieldAddr Try.prog 74 v862 0)).bind fun v863 =>
    (guardQ v861 true (Qload Try.prog 72 v863 w)).bind fun v864 =>
    (guardQ v861 true (Qlen Try.prog #[72] 3 #[v864] w)).bind fun v865 =>
    (guardQ v861 true (Qbin Try.prog Go.BinOp.lss 3 (gv (isB v861 true) x8) v865)).bind fun v866 =>
    (Qpick v861 v866 (Go.Value.bool false)).bind fun v867 =>
    condK v867 (
      (Qnil x0).bind fun v868 =>
      (QfieldAddr Try.prog 74 v868 0).bind fun v869 =>
      (Qload Try.prog 72 v869 w).bind fun v870 =>
      (QindexAddr Try.prog 72 v870 x8 w).bind fun v871 =>
      (QfieldAddr Try.prog 76 v871 0).bind fun v872 =>
      (Qload Try.prog 23 v872 w).bind fun v873 =>
      (Qbin Try.prog Go.BinOp.eql 23 v873 x1).bind fun v874 =>
      (guardQ v874 true (Qnil (gv (isB v874 true) x0))).bind fun v875 =>
      (guardQ v874 true (QfieldAddr Try.prog 74 v875 0)).bind fun v876 =>
      (guardQ v874 true (Qload Try.prog 72 v876 w)).bind fun v877 =>
      (guardQ v874 true (QindexAddr Try.prog 72 v877 (gv (isB v874 true) x8) w)).bind fun v878 =>
      (guardQ v874 true (QfieldAddr Try.prog 76 v878 1)).bind fun v879 =>
      (guardQ v874 true (Qload Try.prog 3 v879 w)).bind fun v880 =>
      (guardQ v874 true (Qbin Try.prog Go.BinOp.eql 3 v880 (gv (isB v874 true) x2))).bind fun v881 =>
      (Qpick v874 v881 (Go.Value.bool false)).bind fun v882 =>
      condK v882 (
        (XbuildSlice Try.prog 34 0 #[] w).bind fun r883 =>
        (Qnil x0).bind fun v884 =>
        (QfieldAddr Try.prog 74 v884 0).bind fun v885 =>
        (Qload Try.prog 72 v885 r883.2).bind fun v886 =>
        (QindexAddr Try.prog 72 v886 x8 r883.2).bind fun v887 =>
        (QfieldAddr Try.prog 76 v887 2).bind fun v888 =>
        (Qload Try.prog 34 v888 r883.2).bind fun v889 =>
        (Xbi Try.prog Go.Builtin.append #[34, 34] 34 #[r883.1, v889] r883.2).bind fun r890 =>
        some (Exit.ret, [x0, x1, x2, r890.1, (Go.Value.bool true), x8], r890.2)
      ) (
        (Qbin Try.prog Go.BinOp.add 3 x8 (Go.Value.int Go.IntKind.i64 1)).bind fun v891 =>
        some (Exit.normal, [x0, x1, x2, x6, x7, v891], w)
      )
    ) (
      some ((Exit.exit 0), [x0, x1, x2, x6, x7, x8], w)
    )
  | _, _ => none
noncomputable def s33R0 : Exit → List Value → World → Option (Value × World)
  | (Exit.exit 0), [_, _, _, _, _, _], w =>
    some ((Value.tuple #[(Go.Value.slice none 0 0), (Go.Value.bool false)]), w)
  | Exit.ret, [_, _, _, x6, x7, _], w =>
    some ((Value.tuple #[x6, x7]), w)
  | _, _, _ => none
noncomputable def s33raw (x0 x1 x2 : Value) (w : World) : Option (Value × World) :=
  s33L0 [x0, x1, x2, undef, undef, undef, (Go.Value.slice none 0 0), (Go.Value.bool false), (Go.Value.int Go.IntKind.i64 0), undef, undef, undef, undef, undef, undef, undef, undef, undef, undef, undef, undef, undef, undef, undef, undef, undef, undef, undef, undef, undef, undef, undef, undef, undef, undef, undef, undef, undef, undef, undef, undef, undef, undef, undef, undef, undef, undef, undef, undef, undef, undef, undef, undef, undef] [] w
noncomputable def s33 (x0 x1 x2 : Value) (w : World) : Option (Value × World) :=
  loopR s33B0 s33R0 [x0, x1, x2, (Go.Value.slice none 0 0), (Go.Value.bool false), (Go.Value.int Go.IntKind.i64 0)] w
theorem s33B0eq (x0 x1 x2 x6 x7 x8 : Value) (w : World) (g : Nat → Value) (d : List Deferred) : evK Try.prog 33 none (nav [1, 0, 1, 0, 0] (bodyOf Try.f33)) none _ (frm 54 (setL [0, 1, 2, 6, 7, 8] [x0, x1, x2, x6, x7, x8] g) d) w (projK [0, 1, 2, 6, 7, 8]) = s33B0 [x0, x1, x2, x6, x7, x8] w := by kernel_rfl
theorem s33R0x0eq (x0 x1 x2 x6 x7 x8 : Value) (g : Nat → Value) (w : World) : s33K1 (Exit.exit 0) (frm 54 (setL [0, 1, 2, 6, 7, 8] [x0, x1, x2, x6, x7, x8] g) []) w = s33R0 (Exit.exit 0) [x0, x1, x2, x6, x7, x8] w := by kernel_rfl
theorem s33R0ret_eq (x0 x1 x2 x6 x7 x8 : Value) (g : Nat → Value) (w : World) : s33K1 Exit.ret (frm 54 (setL [0, 1, 2, 6, 7, 8] [x0, x1, x2, x6, x7, x8] g) []) w = s33R0 Exit.ret [x0, x1, x2, x6, x7, x8] w := by kernel_rfl
theorem s33R0of : ∀ (e : Exit) (xs : List Value) (w : World) (g : Nat → Value) (y : _), s33R0 e xs w = some y → s33K1 e (frm 54 (setL [0, 1, 2, 6, 7, 8] xs g) []) w = some y := by
  intro e xs w g y h
  unfold s33R0 at h
  split at h
  · exact (s33R0x0eq _ _ _ _ _ _ g _).trans h
  · exact (s33R0ret_eq _ _ _ _ _ _ g _).trans h
  · cases h
theorem s33L0of {s0 s1 s2 s3 s4 s5 s6 s7 s8 s9 s10 s11 s12 s13 s14 s15 s16 s17 s18 s19 s20 s21 s22 s23 s24 s25 s26 s27 s28 s29 s30 s31 s32 s33 s34 s35 s36 s37 s38 s39 s40 s41 s42 s43 s44 s45 s46 s47 s48 s49 s50 s51 s52 s53 : Value} {w : World} {r : _} (h : loopR s33B0 s33R0 [s0, s1, s2, s6, s7, s8] w = some r) : s33L0 [s0, s1, s2, s3, s4, s5, s6, s7, s8, s9, s10, s11, s12, s13, s14, s15, s16, s17, s18, s19, s20, s21, s22, s23, s24, s25, s26, s27, s28, s29, s30, s31, s32, s33, s34, s35, s36, s37, s38, s39, s40, s41, s42, s43, s44, s45, s46, s47, s48, s49, s50, s51, s52, s53] [] w = some r :=
  loopN_of (B := s33B0) (R := s33R0) (n := 54) (live := [0, 1, 2, 6, 7, 8]) (fun xs w g y hl h => match xs, hl, h with | [x0, x1, x2, x6, x7, x8], _, h => (s33B0eq x0 x1 x2 x6 x7 x8 w g []).trans h) (by kernel_rfl) (s33R0of) (fun i => ([s0, s1, s2, s3, s4, s5, s6, s7, s8, s9, s10, s11, s12, s13, s14, s15, s16, s17, s18, s19, s20, s21, s22, s23, s24, s25, s26, s27, s28, s29, s30, s31, s32, s33, s34, s35, s36, s37, s38, s39, s40, s41, s42, s43, s44, s45, s46, s47, s48, s49, s50, s51, s52, s53] : List Value).getD i undef) (by kernel_rfl) rfl h
theorem s33eq (x0 x1 x2 : Value) (w : World) : evK Try.prog 33 none (bodyOf Try.f33) none _ { tmps := (([x0, x1, x2] : List Value) ++ List.replicate (54 - 3) undef).toArray, defers := [] } w (leaveK Try.prog Try.f33) = s33raw x0 x1 x2 w := by kernel_rfl
theorem c33 {x0 x1 x2 : Value} {w : World} {r : Value × World} (h : s33 x0 x1 x2 w = some r) : C Try.prog 33 #[x0, x1, x2] w = some r :=
  C_ev follows_all drawLaw (by kernel_rfl) Try.func33 (by rfl) ((s33eq x0 x1 x2 w).trans (show s33raw x0 x1 x2 w = some r from (s33L0of) h))
theorem e33 {x0 x1 x2 : Value} {w : World} {Q : Value × World → Prop} (h : Brings (s33 x0 x1 x2 w) Q) : Brings (Xcall Try.prog (Value.func (Fn.func 33) #[] #[]) #[x0, x1, x2] w) Q :=
  h.call (Xcall_fn Try.func33 (by decide +kernel) (by rfl) _ _ _ w) fun _ h => c33 h

/-! (*lychgate/lychgateref11.Stream).Map -/
noncomputable def s34K0 : Exit → Act → World → Option (Value × World) := seqK (fun a w => evK Try.prog 34 none (nav [1, 1, 1] (bodyOf Try.f34)) none _ a w (leaveK Try.prog Try.f34)) (leaveK Try.prog Try.f34)
noncomputable def s34K1 : Exit → Act → World → Option (Value × World) := blockK 0 s34K0
noncomputable def s34L0 (s : List Value) (d : List Deferred) (w : World) : Option (Value × World) := loopN Try.prog 34 none (nav [1, 1, 0, 1, 0, 0] (bodyOf Try.f34)) s34K1 s d w
noncomputable def s34B0 : List Value → World → Option (Exit × List Value × World)
  | [x0, x1, x4, x5], w =>
    (Qbin Try.prog Go.BinOp.geq 3 x5 (Go.Value.int Go.IntKind.i64 0)).bind fun v898 =>
    condK v898 (
      (Qnil x0).bind fun v899 =>
      (QfieldAddr Try.prog 74 v899 0).bind fun v900 =>
      (Qload Try.prog 72 v900 w).bind fun v901 =>
      (QindexAddr Try.prog 72 v901 x5 w).bind fun v902 =>
      (Qload Try.prog 76 v902 w).bind fun v903 =>
      (Xalloc Try.prog 76 w).bind fun r904 =>
      (Xstore Try.prog 76 r904.1 v903 r904.2).bind fun r905 =>
      (QfieldAddr Try.prog 76 r904.1 0).bind fun v906 =>
      (Qload Try.prog 23 v906 r905.2).bind fun v907 =>
      (Xcall Try.prog (Value.func (Fn.func 18) #[] #[]) #[v907, x1] r905.2).bind fun r908 =>
      (Qbin Try.prog Go.BinOp.gtr 3 r908.1 (Go.Value.int Go.IntKind.i64 0)).bind fun v909 =>
      condK v909 (
        (Qbin Try.prog Go.BinOp.sub 3 x5 (Go.Value.int Go.IntKind.i64 1)).bind fun v910 =>
        some (Exit.normal, [x0, x1, x4, v910], r908.2)
      ) (
        (Qload Try.prog 76 r904.1 r908.2).bind fun v911 =>
        (Xcall Try.prog (Value.func (Fn.func 40) #[] #[]) #[v911] r908.2).bind fun r912 =>
        (Xcall Try.prog (Value.func (Fn.func 18) #[] #[]) #[r912.1, x1] r912.2).bind fun r913 =>
        (Qbin Try.prog Go.BinOp.gtr 3 r913.1 (Go.Value.int Go.IntKind.i64 0)).bind fun v914 =>
        condK v914 (
          (QfieldAddr Try.prog 76 r904.1 0).bind fun v915 =>
          (Qload Try.prog 23 v915 r913.2.drew).bind fun v916 =>
          (Xcall Try.prog (Value.func (Fn.func 43) #[] #[]) #[x0, x5] r913.2.drew).bind fun r917 =>
          (Qbin Try.prog Go.BinOp.add 23 v916 r917.1).bind fun v918 =>
          chkK ((Qload Try.prog 23 v915 r913.2.drew = some v916 ∧ Qload Try.prog 23 v915 r917.2 = some v916) ∧ True) (
            some (Exit.ret, [x0, x1, v918, x5], r917.2)
          )
        ) (
          (Qbin Try.prog Go.BinOp.add 3 x5 (Go.Value.int Go.IntKind.i64 1)).bind fun v919 =>
          (Xcall Try.prog (Value.func (Fn.func 43) #[] #[]) #[x0, v919] r913.2).bind fun r920 =>
          (Qbin Try.prog Go.BinOp.add 23 x1 r920.1).bind fun v921 =>
          some (Exit.ret, [x0, x1, v921, x5], r920.2)
        )
      )
    ) (
      some ((Exit.exit 0), [x0, x1, x4, x5], w)
    )
  | _, _ => none
noncomputable def s34R0 : Exit → List Value → World → Option (Value × World)
  | (Exit.exit 0), [_, x1, _, _], w =>
    some (x1, w)
  | Exit.ret, [_, _, x4, _], w =>
    some (x4, w)
  | _, _, _ => none
noncomputable def s34raw (x0 x1 : Value) (w : World) : Option (Value × World) :=
  (Qbin Try.prog Go.BinOp.eql 25 x0 (Go.Value.pointer none)).bind fun v892 =>
  condK v892 (
    some ((Go.Value.int Go.IntKind.u32 0), w)
  ) (
    (Qnil x0).bind fun v893 =>
    (QfieldAddr Try.prog 74 v893 0).bind fun v894 =>
    (Qload Try.prog 72 v894 w).bind fun v895 =>
    (Qlen Try.prog #[72] 3 #[v895] w).bind fun v896 =>
    (Qbin Try.prog Go.BinOp.sub 3 v896 (Go.Value.int Go.IntKind.i64 1)).bind fun v897 =>
    s34L0 [x0, x1, undef, undef, (Go.Value.int Go.IntKind.u32 0), v897, undef, x0, v892, x0, v893, v894, v895, v896, v897, undef, undef, undef, undef, undef, undef, undef, undef, undef, undef, undef, undef, undef, undef, undef, undef, undef, undef, undef, undef, undef, undef, undef, undef, undef, undef, undef, undef, undef, undef, undef, undef, undef, undef] [] w
  )
noncomputable def s34 (x0 x1 : Value) (w : World) : Option (Value × World) :=
  (Qbin Try.prog Go.BinOp.eql 25 x0 (Go.Value.pointer none)).bind fun v892 =>
  condK v892 (
    some ((Go.Value.int Go.IntKind.u32 0), w)
  ) (
    (Qnil x0).bind fun v893 =>
    (QfieldAddr Try.prog 74 v893 0).bind fun v894 =>
    (Qload Try.prog 72 v894 w).bind fun v895 =>
    (Qlen Try.prog #[72] 3 #[v895] w).bind fun v896 =>
    (Qbin Try.prog Go.BinOp.sub 3 v896 (Go.Value.int Go.IntKind.i64 1)).bind fun v897 =>
    loopR s34B0 s34R0 [x0, x1, (Go.Value.int Go.IntKind.u32 0), v897] w
  )
theorem s34B0eq (x0 x1 x4 x5 : Value) (w : World) (g : Nat → Value) (d : List Deferred) : evK Try.prog 34 none (nav [1, 1, 0, 1, 0, 0] (bodyOf Try.f34)) none _ (frm 49 (setL [0, 1, 4, 5] [x0, x1, x4, x5] g) d) w (projK [0, 1, 4, 5]) = s34B0 [x0, x1, x4, x5] w := by kernel_rfl
theorem s34R0x0eq (x0 x1 x4 x5 : Value) (g : Nat → Value) (w : World) : s34K1 (Exit.exit 0) (frm 49 (setL [0, 1, 4, 5] [x0, x1, x4, x5] g) []) w = s34R0 (Exit.exit 0) [x0, x1, x4, x5] w := by kernel_rfl
theorem s34R0ret_eq (x0 x1 x4 x5 : Value) (g : Nat → Value) (w : World) : s34K1 Exit.ret (frm 49 (setL [0, 1, 4, 5] [x0, x1, x4, x5] g) []) w = s34R0 Exit.ret [x0, x1, x4, x5] w := by kernel_rfl
theorem s34R0of : ∀ (e : Exit) (xs : List Value) (w : World) (g : Nat → Value) (y : _), s34R0 e xs w = some y → s34K1 e (frm 49 (setL [0, 1, 4, 5] xs g) []) w = some y := by
  intro e xs w g y h
  unfold s34R0 at h
  split at h
  · exact (s34R0x0eq _ _ _ _ g _).trans h
  · exact (s34R0ret_eq _ _ _ _ g _).trans h
  · cases h
theorem s34L0of {s0 s1 s2 s3 s4 s5 s6 s7 s8 s9 s10 s11 s12 s13 s14 s15 s16 s17 s18 s19 s20 s21 s22 s23 s24 s25 s26 s27 s28 s29 s30 s31 s32 s33 s34 s35 s36 s37 s38 s39 s40 s41 s42 s43 s44 s45 s46 s47 s48 : Value} {w : World} {r : _} (h : loopR s34B0 s34R0 [s0, s1, s4, s5] w = some r) : s34L0 [s0, s1, s2, s3, s4, s5, s6, s7, s8, s9, s10, s11, s12, s13, s14, s15, s16, s17, s18, s19, s20, s21, s22, s23, s24, s25, s26, s27, s28, s29, s30, s31, s32, s33, s34, s35, s36, s37, s38, s39, s40, s41, s42, s43, s44, s45, s46, s47, s48] [] w = some r :=
  loopN_of (B := s34B0) (R := s34R0) (n := 49) (live := [0, 1, 4, 5]) (fun xs w g y hl h => match xs, hl, h with | [x0, x1, x4, x5], _, h => (s34B0eq x0 x1 x4 x5 w g []).trans h) (by kernel_rfl) (s34R0of) (fun i => ([s0, s1, s2, s3, s4, s5, s6, s7, s8, s9, s10, s11, s12, s13, s14, s15, s16, s17, s18, s19, s20, s21, s22, s23, s24, s25, s26, s27, s28, s29, s30, s31, s32, s33, s34, s35, s36, s37, s38, s39, s40, s41, s42, s43, s44, s45, s46, s47, s48] : List Value).getD i undef) (by kernel_rfl) rfl h
theorem s34eq (x0 x1 : Value) (w : World) : evK Try.prog 34 none (bodyOf Try.f34) none _ { tmps := (([x0, x1] : List Value) ++ List.replicate (49 - 2) undef).toArray, defers := [] } w (leaveK Try.prog Try.f34) = s34raw x0 x1 w := by kernel_rfl
theorem c34 {x0 x1 : Value} {w : World} {r : Value × World} (h : s34 x0 x1 w = some r) : C Try.prog 34 #[x0, x1] w = some r :=
  C_ev follows_all drawLaw (by kernel_rfl) Try.func34 (by rfl) ((s34eq x0 x1 w).trans (show s34raw x0 x1 w = some r from (Ev.bind_mono fun (v892 : Value) => (condK_mono id (Ev.bind_mono fun (v893 : Value) => (Ev.bind_mono fun (v894 : Value) => (Ev.bind_mono fun (v895 : Value) => (Ev.bind_mono fun (v896 : Value) => (Ev.bind_mono fun (v897 : Value) => (s34L0of)))))))) h))
theorem e34 {x0 x1 : Value} {w : World} {Q : Value × World → Prop} (h : Brings (s34 x0 x1 w) Q) : Brings (Xcall Try.prog (Value.func (Fn.func 34) #[] #[]) #[x0, x1] w) Q :=
  h.call (Xcall_fn Try.func34 (by decide +kernel) (by rfl) _ _ _ w) fun _ h => c34 h

/-! (*lychgate/lychgateref11.Stream).Unmap -/
noncomputable def s35K0 : Exit → Act → World → Option (Value × World) := seqK (fun a w => evK Try.prog 35 none (nav [1, 1, 1] (bodyOf Try.f35)) none _ a w (leaveK Try.prog Try.f35)) (leaveK Try.prog Try.f35)
noncomputable def s35K1 : Exit → Act → World → Option (Value × World) := blockK 0 s35K0
noncomputable def s35L0 (s : List Value) (d : List Deferred) (w : World) : Option (Value × World) := loopN Try.prog 35 none (nav [1, 1, 0, 1, 0, 0] (bodyOf Try.f35)) s35K1 s d w
noncomputable def s35B0 : List Value → World → Option (Exit × List Value × World)
  | [x0, x1, x4, x5], w =>
    (Qbin Try.prog Go.BinOp.geq 3 x5 (Go.Value.int Go.IntKind.i64 0)).bind fun v928 =>
    condK v928 (
      (Qnil x0).bind fun v929 =>
      (QfieldAddr Try.prog 74 v929 0).bind fun v930 =>
      (Qload Try.prog 72 v930 w).bind fun v931 =>
      (QindexAddr Try.prog 72 v931 x5 w).bind fun v932 =>
      (Qload Try.prog 76 v932 w).bind fun v933 =>
      (Xalloc Try.prog 76 w).bind fun r934 =>
      (Xstore Try.prog 76 r934.1 v933 r934.2).bind fun r935 =>
      (QfieldAddr Try.prog 76 r934.1 0).bind fun v936 =>
      (Qload Try.prog 23 v936 r935.2.drew).bind fun v937 =>
      (Xcall Try.prog (Value.func (Fn.func 43) #[] #[]) #[x0, x5] r935.2.drew).bind fun r938 =>
      (Qbin Try.prog Go.BinOp.add 23 v937 r938.1).bind fun v939 =>
      chkK ((Qload Try.prog 23 v936 r935.2.drew = some v937 ∧ Qload Try.prog 23 v936 r938.2 = some v937) ∧ True) (
        (Xcall Try.prog (Value.func (Fn.func 18) #[] #[]) #[v939, x1] r938.2).bind fun r940 =>
        (Qbin Try.prog Go.BinOp.gtr 3 r940.1 (Go.Value.int Go.IntKind.i64 0)).bind fun v941 =>
        condK v941 (
          (Qbin Try.prog Go.BinOp.sub 3 x5 (Go.Value.int Go.IntKind.i64 1)).bind fun v942 =>
          some (Exit.normal, [x0, x1, x4, v942], r940.2)
        ) (
          (QfieldAddr Try.prog 76 r934.1 2).bind fun v943 =>
          (Qload Try.prog 34 v943 r940.2).bind fun v944 =>
          (Qlen Try.prog #[34] 3 #[v944] r940.2).bind fun v945 =>
          (Qconv Try.prog 3 23 v945).bind fun v946 =>
          (Qbin Try.prog Go.BinOp.add 23 v939 v946).bind fun v947 =>
          (Xcall Try.prog (Value.func (Fn.func 18) #[] #[]) #[v947, x1] r940.2).bind fun r948 =>
          (Qbin Try.prog Go.BinOp.gtr 3 r948.1 (Go.Value.int Go.IntKind.i64 0)).bind fun v949 =>
          condK v949 (
            (QfieldAddr Try.prog 76 r934.1 0).bind fun v950 =>
            (Qload Try.prog 23 v950 r948.2).bind fun v951 =>
            some (Exit.ret, [x0, x1, v951, x5], r948.2)
          ) (
            (Qbin Try.prog Go.BinOp.add 3 x5 (Go.Value.int Go.IntKind.i64 1)).bind fun v952 =>
            (Xcall Try.prog (Value.func (Fn.func 43) #[] #[]) #[x0, v952] r948.2).bind fun r953 =>
            (Qbin Try.prog Go.BinOp.sub 23 x1 r953.1).bind fun v954 =>
            some (Exit.ret, [x0, x1, v954, x5], r953.2)
          )
        )
      )
    ) (
      some ((Exit.exit 0), [x0, x1, x4, x5], w)
    )
  | _, _ => none
noncomputable def s35R0 : Exit → List Value → World → Option (Value × World)
  | (Exit.exit 0), [_, x1, _, _], w =>
    some (x1, w)
  | Exit.ret, [_, _, x4, _], w =>
    some (x4, w)
  | _, _, _ => none
noncomputable def s35raw (x0 x1 : Value) (w : World) : Option (Value × World) :=
  (Qbin Try.prog Go.BinOp.eql 25 x0 (Go.Value.pointer none)).bind fun v922 =>
  condK v922 (
    some ((Go.Value.int Go.IntKind.u32 0), w)
  ) (
    (Qnil x0).bind fun v923 =>
    (QfieldAddr Try.prog 74 v923 0).bind fun v924 =>
    (Qload Try.prog 72 v924 w).bind fun v925 =>
    (Qlen Try.prog #[72] 3 #[v925] w).bind fun v926 =>
    (Qbin Try.prog Go.BinOp.sub 3 v926 (Go.Value.int Go.IntKind.i64 1)).bind fun v927 =>
    s35L0 [x0, x1, undef, undef, (Go.Value.int Go.IntKind.u32 0), v927, undef, undef, x0, v922, x0, v923, v924, v925, v926, v927, undef, undef, undef, undef, undef, undef, undef, undef, undef, undef, undef, undef, undef, undef, undef, undef, undef, undef, undef, undef, undef, undef, undef, undef, undef, undef, undef, undef, undef, undef, undef, undef, undef, undef, undef, undef, undef, undef, undef] [] w
  )
noncomputable def s35 (x0 x1 : Value) (w : World) : Option (Value × World) :=
  (Qbin Try.prog Go.BinOp.eql 25 x0 (Go.Value.pointer none)).bind fun v922 =>
  condK v922 (
    some ((Go.Value.int Go.IntKind.u32 0), w)
  ) (
    (Qnil x0).bind fun v923 =>
    (QfieldAddr Try.prog 74 v923 0).bind fun v924 =>
    (Qload Try.prog 72 v924 w).bind fun v925 =>
    (Qlen Try.prog #[72] 3 #[v925] w).bind fun v926 =>
    (Qbin Try.prog Go.BinOp.sub 3 v926 (Go.Value.int Go.IntKind.i64 1)).bind fun v927 =>
    loopR s35B0 s35R0 [x0, x1, (Go.Value.int Go.IntKind.u32 0), v927] w
  )
theorem s35B0eq (x0 x1 x4 x5 : Value) (w : World) (g : Nat → Value) (d : List Deferred) : evK Try.prog 35 none (nav [1, 1, 0, 1, 0, 0] (bodyOf Try.f35)) none _ (frm 55 (setL [0, 1, 4, 5] [x0, x1, x4, x5] g) d) w (projK [0, 1, 4, 5]) = s35B0 [x0, x1, x4, x5] w := by kernel_rfl
theorem s35R0x0eq (x0 x1 x4 x5 : Value) (g : Nat → Value) (w : World) : s35K1 (Exit.exit 0) (frm 55 (setL [0, 1, 4, 5] [x0, x1, x4, x5] g) []) w = s35R0 (Exit.exit 0) [x0, x1, x4, x5] w := by kernel_rfl
theorem s35R0ret_eq (x0 x1 x4 x5 : Value) (g : Nat → Value) (w : World) : s35K1 Exit.ret (frm 55 (setL [0, 1, 4, 5] [x0, x1, x4, x5] g) []) w = s35R0 Exit.ret [x0, x1, x4, x5] w := by kernel_rfl
theorem s35R0of : ∀ (e : Exit) (xs : List Value) (w : World) (g : Nat → Value) (y : _), s35R0 e xs w = some y → s35K1 e (frm 55 (setL [0, 1, 4, 5] xs g) []) w = some y := by
  intro e xs w g y h
  unfold s35R0 at h
  split at h
  · exact (s35R0x0eq _ _ _ _ g _).trans h
  · exact (s35R0ret_eq _ _ _ _ g _).trans h
  · cases h
theorem s35L0of {s0 s1 s2 s3 s4 s5 s6 s7 s8 s9 s10 s11 s12 s13 s14 s15 s16 s17 s18 s19 s20 s21 s22 s23 s24 s25 s26 s27 s28 s29 s30 s31 s32 s33 s34 s35 s36 s37 s38 s39 s40 s41 s42 s43 s44 s45 s46 s47 s48 s49 s50 s51 s52 s53 s54 : Value} {w : World} {r : _} (h : loopR s35B0 s35R0 [s0, s1, s4, s5] w = some r) : s35L0 [s0, s1, s2, s3, s4, s5, s6, s7, s8, s9, s10, s11, s12, s13, s14, s15, s16, s17, s18, s19, s20, s21, s22, s23, s24, s25, s26, s27, s28, s29, s30, s31, s32, s33, s34, s35, s36, s37, s38, s39, s40, s41, s42, s43, s44, s45, s46, s47, s48, s49, s50, s51, s52, s53, s54] [] w = some r :=
  loopN_of (B := s35B0) (R := s35R0) (n := 55) (live := [0, 1, 4, 5]) (fun xs w g y hl h => match xs, hl, h with | [x0, x1, x4, x5], _, h => (s35B0eq x0 x1 x4 x5 w g []).trans h) (by kernel_rfl) (s35R0of) (fun i => ([s0, s1, s2, s3, s4, s5, s6, s7, s8, s9, s10, s11, s12, s13, s14, s15, s16, s17, s18, s19, s20, s21, s22, s23, s24, s25, s26, s27, s28, s29, s30, s31, s32, s33, s34, s35, s36, s37, s38, s39, s40, s41, s42, s43, s44, s45, s46, s47, s48, s49, s50, s51, s52, s53, s54] : List Value).getD i undef) (by kernel_rfl) rfl h
theorem s35eq (x0 x1 : Value) (w : World) : evK Try.prog 35 none (bodyOf Try.f35) none _ { tmps := (([x0, x1] : List Value) ++ List.replicate (55 - 2) undef).toArray, defers := [] } w (leaveK Try.prog Try.f35) = s35raw x0 x1 w := by kernel_rfl
theorem c35 {x0 x1 : Value} {w : World} {r : Value × World} (h : s35 x0 x1 w = some r) : C Try.prog 35 #[x0, x1] w = some r :=
  C_ev follows_all drawLaw (by kernel_rfl) Try.func35 (by rfl) ((s35eq x0 x1 w).trans (show s35raw x0 x1 w = some r from (Ev.bind_mono fun (v922 : Value) => (condK_mono id (Ev.bind_mono fun (v923 : Value) => (Ev.bind_mono fun (v924 : Value) => (Ev.bind_mono fun (v925 : Value) => (Ev.bind_mono fun (v926 : Value) => (Ev.bind_mono fun (v927 : Value) => (s35L0of)))))))) h))
theorem e35 {x0 x1 : Value} {w : World} {Q : Value × World → Prop} (h : Brings (s35 x0 x1 w) Q) : Brings (Xcall Try.prog (Value.func (Fn.func 35) #[] #[]) #[x0, x1] w) Q :=
  h.call (Xcall_fn Try.func35 (by decide +kernel) (by rfl) _ _ _ w) fun _ h => c35 h

/-! (*lychgate/lychgateref11.Stream).Len -/
noncomputable def s36 (x0 : Value) (w : World) : Option (Value × World) :=
  (Qbin Try.prog Go.BinOp.eql 25 x0 (Go.Value.pointer none)).bind fun v955 =>
  condK v955 (
    some ((Go.Value.int Go.IntKind.i64 0), w)
  ) (
    (Qnil x0).bind fun v956 =>
    (QfieldAddr Try.prog 74 v956 0).bind fun v957 =>
    (Qload Try.prog 72 v957 w).bind fun v958 =>
    (Qlen Try.prog #[72] 3 #[v958] w).bind fun v959 =>
    some (v959, w)
  )
theorem s36eq (x0 : Value) (w : World) : evK Try.prog 36 none (bodyOf Try.f36) none _ { tmps := (([x0] : List Value) ++ List.replicate (10 - 1) undef).toArray, defers := [] } w (leaveK Try.prog Try.f36) = s36 x0 w := by kernel_rfl
theorem c36 {x0 : Value} {w : World} {r : Value × World} (h : s36 x0 w = some r) : C Try.prog 36 #[x0] w = some r :=
  C_ev follows_all drawLaw (by kernel_rfl) Try.func36 (by rfl) ((s36eq x0 w).trans h)
theorem e36 {x0 : Value} {w : World} {Q : Value × World → Prop} (h : Brings (s36 x0 w) Q) : Brings (Xcall Try.prog (Value.func (Fn.func 36) #[] #[]) #[x0] w) Q :=
  h.call (Xcall_fn Try.func36 (by decide +kernel) (by rfl) _ _ _ w) fun _ h => c36 h

/-! slices.IndexFunc[[]lychgate/seqadj.part,lychgate/seqadj.part] -/
noncomputable def s37K0 : Exit → Act → World → Option (Value × World) := seqK (fun a w => evK Try.prog 37 none (nav [1, 1] (bodyOf Try.f37)) none _ a w (leaveK Try.prog Try.f37)) (leaveK Try.prog Try.f37)
noncomputable def s37K1 : Exit → Act → World → Option (Value × World) := blockK 0 s37K0
noncomputable def s37L0 (s : List Value) (d : List Deferred) (w : World) : Option (Value × World) := loopN Try.prog 37 none (nav [1, 0, 1, 0, 0] (bodyOf Try.f37)) s37K1 s d w
noncomputable def s37B0 : List Value → World → Option (Exit × List Value × World)
  | [x0, x1, x4, x7, x8], w =>
    (Qbin Try.prog Go.BinOp.lss 3 x8 x7).bind fun v961 =>
    condK v961 (
      (QindexAddr Try.prog 64 x0 x8 w).bind fun v962 =>
      (Qload Try.prog 63 v962 w).bind fun v963 =>
      (Xcall Try.prog x1 #[v963] w).bind fun r964 =>
      condK r964.1 (
        some (Exit.ret, [x0, x1, x8, x7, x8], r964.2)
      ) (
        (Qbin Try.prog Go.BinOp.add 3 x8 (Go.Value.int Go.IntKind.i64 1)).bind fun v965 =>
        some (Exit.normal, [x0, x1, x4, x7, v965], r964.2)
      )
    ) (
      some ((Exit.exit 0), [x0, x1, x4, x7, x8], w)
    )
  | _, _ => none
noncomputable def s37R0 : Exit → List Value → World → Option (Value × World)
  | (Exit.exit 0), [_, _, _, _, _], w =>
    some ((Go.Value.int Go.IntKind.i64 (-1)), w)
  | Exit.ret, [_, _, x4, _, _], w =>
    some (x4, w)
  | _, _, _ => none
noncomputable def s37raw (x0 x1 : Value) (w : World) : Option (Value × World) :=
  (Qlen Try.prog #[64] 3 #[x0] w).bind fun v960 =>
  s37L0 [x0, x1, undef, undef, (Go.Value.int Go.IntKind.i64 0), undef, x0, v960, (Go.Value.int Go.IntKind.i64 0), undef, undef, undef, undef, undef, undef, undef, undef, undef, undef] [] w
noncomputable def s37 (x0 x1 : Value) (w : World) : Option (Value × World) :=
  (Qlen Try.prog #[64] 3 #[x0] w).bind fun v960 =>
  loopR s37B0 s37R0 [x0, x1, (Go.Value.int Go.IntKind.i64 0), v960, (Go.Value.int Go.IntKind.i64 0)] w
theorem s37B0eq (x0 x1 x4 x7 x8 : Value) (w : World) (g : Nat → Value) (d : List Deferred) : evK Try.prog 37 none (nav [1, 0, 1, 0, 0] (bodyOf Try.f37)) none _ (frm 19 (setL [0, 1, 4, 7, 8] [x0, x1, x4, x7, x8] g) d) w (projK [0, 1, 4, 7, 8]) = s37B0 [x0, x1, x4, x7, x8] w := by kernel_rfl
theorem s37R0x0eq (x0 x1 x4 x7 x8 : Value) (g : Nat → Value) (w : World) : s37K1 (Exit.exit 0) (frm 19 (setL [0, 1, 4, 7, 8] [x0, x1, x4, x7, x8] g) []) w = s37R0 (Exit.exit 0) [x0, x1, x4, x7, x8] w := by kernel_rfl
theorem s37R0ret_eq (x0 x1 x4 x7 x8 : Value) (g : Nat → Value) (w : World) : s37K1 Exit.ret (frm 19 (setL [0, 1, 4, 7, 8] [x0, x1, x4, x7, x8] g) []) w = s37R0 Exit.ret [x0, x1, x4, x7, x8] w := by kernel_rfl
theorem s37R0of : ∀ (e : Exit) (xs : List Value) (w : World) (g : Nat → Value) (y : _), s37R0 e xs w = some y → s37K1 e (frm 19 (setL [0, 1, 4, 7, 8] xs g) []) w = some y := by
  intro e xs w g y h
  unfold s37R0 at h
  split at h
  · exact (s37R0x0eq _ _ _ _ _ g _).trans h
  · exact (s37R0ret_eq _ _ _ _ _ g _).trans h
  · cases h
theorem s37L0of {s0 s1 s2 s3 s4 s5 s6 s7 s8 s9 s10 s11 s12 s13 s14 s15 s16 s17 s18 : Value} {w : World} {r : _} (h : loopR s37B0 s37R0 [s0, s1, s4, s7, s8] w = some r) : s37L0 [s0, s1, s2, s3, s4, s5, s6, s7, s8, s9, s10, s11, s12, s13, s14, s15, s16, s17, s18] [] w = some r :=
  loopN_of (B := s37B0) (R := s37R0) (n := 19) (live := [0, 1, 4, 7, 8]) (fun xs w g y hl h => match xs, hl, h with | [x0, x1, x4, x7, x8], _, h => (s37B0eq x0 x1 x4 x7 x8 w g []).trans h) (by kernel_rfl) (s37R0of) (fun i => ([s0, s1, s2, s3, s4, s5, s6, s7, s8, s9, s10, s11, s12, s13, s14, s15, s16, s17, s18] : List Value).getD i undef) (by kernel_rfl) rfl h
theorem s37eq (x0 x1 : Value) (w : World) : evK Try.prog 37 none (bodyOf Try.f37) none _ { tmps := (([x0, x1] : List Value) ++ List.replicate (19 - 2) undef).toArray, defers := [] } w (leaveK Try.prog Try.f37) = s37raw x0 x1 w := by kernel_rfl
theorem c37 {x0 x1 : Value} {w : World} {r : Value × World} (h : s37 x0 x1 w = some r) : C Try.prog 37 #[x0, x1] w = some r :=
  C_ev follows_all drawLaw (by kernel_rfl) Try.func37 (by rfl) ((s37eq x0 x1 w).trans (show s37raw x0 x1 w = some r from (Ev.bind_mono fun (v960 : Value) => (s37L0of)) h))
theorem e37 {x0 x1 : Value} {w : World} {Q : Value × World → Prop} (h : Brings (s37 x0 x1 w) Q) : Brings (Xcall Try.prog (Value.func (Fn.func 37) #[] #[]) #[x0, x1] w) Q :=
  h.call (Xcall_fn Try.func37 (by decide +kernel) (by rfl) _ _ _ w) fun _ h => c37 h

/-! (*lychgate/seqadj.Stream).Find$1 -/
noncomputable def s38 (x0 x1 x2 : Value) (w : World) : Option (Value × World) :=
  (Xbox Try.prog 63 x0 w).bind fun r966 =>
  (QfieldAddr Try.prog 63 r966.1 0).bind fun v967 =>
  (Qload Try.prog 23 v967 r966.2).bind fun v968 =>
  (Qload Try.prog 23 x1 r966.2).bind fun v969 =>
  (Qbin Try.prog Go.BinOp.eql 23 v968 v969).bind fun v970 =>
  (guardQ v970 true (QfieldAddr Try.prog 63 r966.1 1)).bind fun v971 =>
  (guardQ v970 true (Qload Try.prog 23 v971 r966.2)).bind fun v972 =>
  (guardQ v970 true (Qload Try.prog 23 x1 r966.2)).bind fun v973 =>
  (guardQ v970 true (Qload Try.prog 3 x2 r966.2)).bind fun v974 =>
  (guardQ v970 true (Qconv Try.prog 3 23 v974)).bind fun v975 =>
  (guardQ v970 true (Qbin Try.prog Go.BinOp.add 23 v973 v975)).bind fun v976 =>
  (guardQ v970 true (Qbin Try.prog Go.BinOp.eql 23 v972 v976)).bind fun v977 =>
  (Qpick v970 v977 (Go.Value.bool false)).bind fun v978 =>
  some (v978, r966.2)
theorem s38eq (x0 x1 x2 : Value) (w : World) : evK Try.prog 38 none (bodyOf Try.f38) none _ { tmps := (([x0, x1, x2] : List Value) ++ List.replicate (18 - 3) undef).toArray, defers := [] } w (leaveK Try.prog Try.f38) = s38 x0 x1 x2 w := by kernel_rfl
theorem c38 {x0 x1 x2 : Value} {w : World} {r : Value × World} (h : s38 x0 x1 x2 w = some r) : C Try.prog 38 #[x0, x1, x2] w = some r :=
  C_ev follows_all drawLaw (by kernel_rfl) Try.func38 (by rfl) ((s38eq x0 x1 x2 w).trans h)
theorem e38 {x0 x1 x2 : Value} {w : World} {Q : Value × World → Prop} (h : Brings (s38 x0 x1 x2 w) Q) : Brings (Xcall Try.prog (Value.func (Fn.func 38) #[] #[x1, x2]) #[x0] w) Q :=
  h.call (Xcall_fn Try.func38 (by decide +kernel) (by rfl) _ _ _ w) fun _ h => c38 h

/-! slices.Clone[[]lychgate/seqadj.part,lychgate/seqadj.part] -/
noncomputable def s39 (x0 : Value) (w : World) : Option (Value × World) :=
  (Qbin Try.prog Go.BinOp.eql 64 x0 (Go.Value.slice none 0 0)).bind fun v979 =>
  condK v979 (
    some ((Go.Value.slice none 0 0), w)
  ) (
    (XbuildSlice Try.prog 64 0 #[] w).bind fun r980 =>
    (Xbi Try.prog Go.Builtin.append #[64, 64] 64 #[r980.1, x0] r980.2).bind fun r981 =>
    some (r981.1, r981.2)
  )
theorem s39eq (x0 : Value) (w : World) : evK Try.prog 39 none (bodyOf Try.f39) none _ { tmps := (([x0] : List Value) ++ List.replicate (8 - 1) undef).toArray, defers := [] } w (leaveK Try.prog Try.f39) = s39 x0 w := by kernel_rfl
theorem c39 {x0 : Value} {w : World} {r : Value × World} (h : s39 x0 w = some r) : C Try.prog 39 #[x0] w = some r :=
  C_ev follows_all drawLaw (by kernel_rfl) Try.func39 (by rfl) ((s39eq x0 w).trans h)
theorem e39 {x0 : Value} {w : World} {Q : Value × World → Prop} (h : Brings (s39 x0 w) Q) : Brings (Xcall Try.prog (Value.func (Fn.func 39) #[] #[]) #[x0] w) Q :=
  h.call (Xcall_fn Try.func39 (by decide +kernel) (by rfl) _ _ _ w) fun _ h => c39 h

/-! (lychgate/lychgateref11.part).end -/
noncomputable def s40 (x0 : Value) (w : World) : Option (Value × World) :=
  (Xbox Try.prog 76 x0 w).bind fun r982 =>
  (QfieldAddr Try.prog 76 r982.1 0).bind fun v983 =>
  (Qload Try.prog 23 v983 r982.2).bind fun v984 =>
  (QfieldAddr Try.prog 76 r982.1 1).bind fun v985 =>
  (Qload Try.prog 3 v985 r982.2).bind fun v986 =>
  (Qconv Try.prog 3 23 v986).bind fun v987 =>
  (Qbin Try.prog Go.BinOp.add 23 v984 v987).bind fun v988 =>
  some (v988, r982.2)
theorem s40eq (x0 : Value) (w : World) : evK Try.prog 40 none (bodyOf Try.f40) none _ { tmps := (([x0] : List Value) ++ List.replicate (9 - 1) undef).toArray, defers := [] } w (leaveK Try.prog Try.f40) = s40 x0 w := by kernel_rfl
theorem c40 {x0 : Value} {w : World} {r : Value × World} (h : s40 x0 w = some r) : C Try.prog 40 #[x0] w = some r :=
  C_ev follows_all drawLaw (by kernel_rfl) Try.func40 (by rfl) ((s40eq x0 w).trans h)
theorem e40 {x0 : Value} {w : World} {Q : Value × World → Prop} (h : Brings (s40 x0 w) Q) : Brings (Xcall Try.prog (Value.func (Fn.func 40) #[] #[]) #[x0] w) Q :=
  h.call (Xcall_fn Try.func40 (by decide +kernel) (by rfl) _ _ _ w) fun _ h => c40 h

/-! (*lychgate/seqadj.Stream).last$1 -/
noncomputable def s41K0 : Exit → Act → World → Option (Value × World) := blockK 0 (leaveK Try.prog Try.f41)
noncomputable def s41G0R (d : List Deferred) (w : World) : Exit → Option (Value × World)
  | Exit.normal =>
    (takeAll Try.prog d w).bind fun w_ => some ((Value.tuple #[]), w_)
  | Exit.ret =>
    (takeAll Try.prog d w).bind fun w_ => some ((Value.tuple #[]), w_)
  | _ => none
noncomputable def s41G0Q (l : Nat) (s2 s13 : Value) (w : World) : Option (Value × World) :=
  (Xalloc Try.prog 63 w).bind fun r997 =>
  (Xstore Try.prog 63 r997.1 s13 r997.2).bind fun r998 =>
  begK Try.prog l r998.2 fun w999 =>
  (Qload Try.prog 70 s2 w999).bind fun v1000 =>
  (Qload Try.prog 63 r997.1 w999).bind fun v1001 =>
  (Xcall Try.prog v1000 #[v1001] w999).bind fun r1002 =>
  (Qun Go.UnOp.not r1002.1).bind fun v1003 =>
  condK v1003 (
    endR Try.prog l (some Code.ret) r1002.2
  ) (
    endR Try.prog l none r1002.2
  )
noncomputable def s41raw (x0 x1 : Value) (w : World) : Option (Value × World) :=
  (Xbox Try.prog 70 x0 w).bind fun r989 =>
  (Qload Try.prog 24 x1 r989.2).bind fun v990 =>
  (Qbin Try.prog Go.BinOp.eql 24 v990 (Go.Value.pointer none)).bind fun v991 =>
  condK v991 (
    some ((Value.tuple #[]), r989.2)
  ) (
    (Qload Try.prog 24 x1 r989.2).bind fun v992 =>
    (Qnil v992).bind fun v993 =>
    (QfieldAddr Try.prog 66 v993 0).bind fun v994 =>
    (Qload Try.prog 64 v994 r989.2).bind fun v995 =>
    (Xcall Try.prog (Value.func (Fn.func 42) #[] #[]) #[v995] r989.2).bind fun r996 =>
    (evRange Try.prog 41 none r996.1 #[12, 13] (nav [1, 1, 1, 0, 0] (bodyOf Try.f41)) (nav [1, 1, 1, 0, 1] (bodyOf Try.f41)) ⟨[x0, x1, r989.1, undef, undef, v990, v991, v992, v993, v994, v995, r996.1, undef, undef, undef, undef, undef, undef].toArray, []⟩ r996.2).bind fun x => s41K0 x.1 x.2.1 x.2.2
  )
noncomputable def s41 (x0 x1 : Value) (w : World) : Option (Value × World) :=
  (Xbox Try.prog 70 x0 w).bind fun r989 =>
  (Qload Try.prog 24 x1 r989.2).bind fun v990 =>
  (Qbin Try.prog Go.BinOp.eql 24 v990 (Go.Value.pointer none)).bind fun v991 =>
  condK v991 (
    some ((Value.tuple #[]), r989.2)
  ) (
    (Qload Try.prog 24 x1 r989.2).bind fun v992 =>
    (Qnil v992).bind fun v993 =>
    (QfieldAddr Try.prog 66 v993 0).bind fun v994 =>
    (Qload Try.prog 64 v994 r989.2).bind fun v995 =>
    (Xcall Try.prog (Value.func (Fn.func 42) #[] #[]) #[v995] r989.2).bind fun r996 =>
    (evRange Try.prog 41 none r996.1 #[12, 13] (nav [1, 1, 1, 0, 0] (bodyOf Try.f41)) (nav [1, 1, 1, 0, 1] (bodyOf Try.f41)) ⟨[x0, x1, r989.1, undef, undef, v990, v991, v992, v993, v994, v995, r996.1, undef, undef, undef, undef, undef, undef].toArray, []⟩ r996.2).bind fun x => s41G0R x.2.1.defers x.2.2 x.1
  )
theorem s41G0Rnrmeq (s0 s1 s2 s3 s4 s5 s6 s7 s8 s9 s10 s11 s12 s13 s14 s15 s16 s17 : Value) (d : List Deferred) (w : World) : s41K0 Exit.normal ⟨[s0, s1, s2, s3, s4, s5, s6, s7, s8, s9, s10, s11, s12, s13, s14, s15, s16, s17].toArray, d⟩ w = s41G0R d w Exit.normal := by kernel_rfl
theorem s41G0Rreteq (s0 s1 s2 s3 s4 s5 s6 s7 s8 s9 s10 s11 s12 s13 s14 s15 s16 s17 : Value) (d : List Deferred) (w : World) : s41K0 Exit.ret ⟨[s0, s1, s2, s3, s4, s5, s6, s7, s8, s9, s10, s11, s12, s13, s14, s15, s16, s17].toArray, d⟩ w = s41G0R d w Exit.ret := by kernel_rfl
theorem s41G0Rof {s0 s1 s2 s3 s4 s5 s6 s7 s8 s9 s10 s11 s12 s13 s14 s15 s16 s17 : Value} {d : List Deferred} {w : World} {e : Exit} {y : _} (h : s41G0R d w e = some y) : s41K0 e ⟨[s0, s1, s2, s3, s4, s5, s6, s7, s8, s9, s10, s11, s12, s13, s14, s15, s16, s17].toArray, d⟩ w = some y := by
  unfold s41G0R at h
  split at h
  · exact (s41G0Rnrmeq _ _ _ _ _ _ _ _ _ _ _ _ _ _ _ _ _ _ _ _).trans h
  · exact (s41G0Rreteq _ _ _ _ _ _ _ _ _ _ _ _ _ _ _ _ _ _ _ _).trans h
  · cases h
theorem s41G0Qeq (l : Nat) (s0 s1 s2 s3 s4 s5 s6 s7 s8 s9 s10 s11 s12 s13 s14 s15 s16 s17 : Value) (w : World) : roundE Try.prog l 41 [s0, s1, s2, s3, s4, s5, s6, s7, s8, s9, s10, s11, s12, s13, s14, s15, s16, s17].toArray (nav [1, 1, 1, 0, 0] (bodyOf Try.f41)) (nav [1, 1, 1, 0, 1] (bodyOf Try.f41)) w = s41G0Q l s2 s13 w := by kernel_rfl
theorem s41G0Qof {l : Nat} {s0 s1 s2 s3 s4 s5 s6 s7 s8 s9 s10 s11 s12 s13 s14 s15 s16 s17 : Value} {w : World} {r : Value × World} (h : s41G0Q l s2 s13 w = some r) : Rd Try.prog l 41 [s0, s1, s2, s3, s4, s5, s6, s7, s8, s9, s10, s11, s12, s13, s14, s15, s16, s17].toArray (nav [1, 1, 1, 0, 0] (bodyOf Try.f41)) (nav [1, 1, 1, 0, 1] (bodyOf Try.f41)) w = some r :=
  Rd_ev follows_all drawLaw (by kernel_rfl) ((s41G0Qeq l s0 s1 s2 s3 s4 s5 s6 s7 s8 s9 s10 s11 s12 s13 s14 s15 s16 s17 w).trans h)
theorem s41G0Qb {l : Nat} {s0 s1 s2 s3 s4 s5 s6 s7 s8 s9 s10 s11 s12 s13 s14 s15 s16 s17 : Value} {w : World} {Q : Value × World → Prop} (h : Brings (s41G0Q l s2 s13 w) Q) : Brings (Rd Try.prog l 41 [s0, s1, s2, s3, s4, s5, s6, s7, s8, s9, s10, s11, s12, s13, s14, s15, s16, s17].toArray (nav [1, 1, 1, 0, 0] (bodyOf Try.f41)) (nav [1, 1, 1, 0, 1] (bodyOf Try.f41)) w) Q := h.of_eq fun _ h => s41G0Qof h
theorem s41eq (x0 x1 : Value) (w : World) : evK Try.prog 41 none (bodyOf Try.f41) none _ { tmps := (([x0, x1] : List Value) ++ List.replicate (18 - 2) undef).toArray, defers := [] } w (leaveK Try.prog Try.f41) = s41raw x0 x1 w := by kernel_rfl
theorem c41 {x0 x1 : Value} {w : World} {r : Value × World} (h : s41 x0 x1 w = some r) : C Try.prog 41 #[x0, x1] w = some r :=
  C_ev follows_all drawLaw (by kernel_rfl) Try.func41 (by rfl) ((s41eq x0 x1 w).trans (show s41raw x0 x1 w = some r from (Ev.bind_mono fun (r989 : Value × World) => (Ev.bind_mono fun (v990 : Value) => (Ev.bind_mono fun (v991 : Value) => (condK_mono id (Ev.bind_mono fun (v992 : Value) => (Ev.bind_mono fun (v993 : Value) => (Ev.bind_mono fun (v994 : Value) => (Ev.bind_mono fun (v995 : Value) => (Ev.bind_mono fun (r996 : Value × World) => (range_of (R := fun e d w => s41G0R d w e) (fun e d w y h => s41G0Rof h))))))))))) h))
theorem e41 {x0 x1 : Value} {w : World} {Q : Value × World → Prop} (h : Brings (s41 x0 x1 w) Q) : Brings (Xcall Try.prog (Value.func (Fn.func 41) #[] #[x1]) #[x0] w) Q :=
  h.call (Xcall_fn Try.func41 (by decide +kernel) (by rfl) _ _ _ w) fun _ h => c41 h

/-! slices.Backward[[]lychgate/seqadj.part,lychgate/seqadj.part] -/
noncomputable def s42 (x0 : Value) (w : World) : Option (Value × World) :=
  (Xbox Try.prog 64 x0 w).bind fun r1004 =>
  (some (Value.func (Go.Fn.func 44) #[] #[r1004.1])).bind fun v1005 =>
  some (v1005, r1004.2)
theorem s42eq (x0 : Value) (w : World) : evK Try.prog 42 none (bodyOf Try.f42) none _ { tmps := (([x0] : List Value) ++ List.replicate (4 - 1) undef).toArray, defers := [] } w (leaveK Try.prog Try.f42) = s42 x0 w := by kernel_rfl
theorem c42 {x0 : Value} {w : World} {r : Value × World} (h : s42 x0 w = some r) : C Try.prog 42 #[x0] w = some r :=
  C_ev follows_all drawLaw (by kernel_rfl) Try.func42 (by rfl) ((s42eq x0 w).trans h)
theorem e42 {x0 : Value} {w : World} {Q : Value × World → Prop} (h : Brings (s42 x0 w) Q) : Brings (Xcall Try.prog (Value.func (Fn.func 42) #[] #[]) #[x0] w) Q :=
  h.call (Xcall_fn Try.func42 (by decide +kernel) (by rfl) _ _ _ w) fun _ h => c42 h

/-! (*lychgate/lychgateref11.Stream).diff -/
noncomputable def s43K0 : Exit → Act → World → Option (Value × World) := seqK (fun a w => evK Try.prog 43 none (nav [1, 1, 1] (bodyOf Try.f43)) none _ a w (leaveK Try.prog Try.f43)) (leaveK Try.prog Try.f43)
noncomputable def s43K1 : Exit → Act → World → Option (Value × World) := blockK 0 s43K0
noncomputable def s43L0 (s : List Value) (d : List Deferred) (w : World) : Option (Value × World) := loopN Try.prog 43 none (nav [1, 1, 0, 1, 0, 0] (bodyOf Try.f43)) s43K1 s d w
noncomputable def s43B0 : List Value → World → Option (Exit × List Value × World)
  | [x0, x1, x5, x6], w =>
    (Qbin Try.prog Go.BinOp.lss 3 x6 x1).bind fun v1006 =>
    condK v1006 (
      (Qnil x0).bind fun v1007 =>
      (QfieldAddr Try.prog 74 v1007 0).bind fun v1008 =>
      (Qload Try.prog 72 v1008 w.drew).bind fun v1009 =>
      (QindexAddr Try.prog 72 v1009 x6 w.drew).bind fun v1010 =>
      (QfieldAddr Try.prog 76 v1010 2).bind fun v1011 =>
      (Qload Try.prog 34 v1011 w.drew).bind fun v1012 =>
      (Qlen Try.prog #[34] 3 #[v1012] w.drew).bind fun v1013 =>
      (Qconv Try.prog 3 23 v1013).bind fun v1014 =>
      (Qnil x0).bind fun v1015 =>
      (QfieldAddr Try.prog 74 v1015 0).bind fun v1016 =>
      (Qload Try.prog 72 v1016 w.drew).bind fun v1017 =>
      (QindexAddr Try.prog 72 v1017 x6 w.drew).bind fun v1018 =>
      (QfieldAddr Try.prog 76 v1018 1).bind fun v1019 =>
      (Qload Try.prog 3 v1019 w.drew).bind fun v1020 =>
      (Qconv Try.prog 3 23 v1020).bind fun v1021 =>
      (Qbin Try.prog Go.BinOp.sub 23 v1014 v1021).bind fun v1022 =>
      (Qbin Try.prog Go.BinOp.add 23 x5 v1022).bind fun v1023 =>
      chkK True (
        (Qbin Try.prog Go.BinOp.add 3 x6 (Go.Value.int Go.IntKind.i64 1)).bind fun v1024 =>
        some (Exit.normal, [x0, x1, v1023, v1024], w.drew)
      )
    ) (
      some ((Exit.exit 0), [x0, x1, x5, x6], w)
    )
  | _, _ => none
noncomputable def s43R0 : Exit → List Value → World → Option (Value × World)
  | (Exit.exit 0), [_, _, x5, _], w =>
    some (x5, w)
  | _, _, _ => none
noncomputable def s43raw (x0 x1 : Value) (w : World) : Option (Value × World) :=
  s43L0 [x0, x1, undef, undef, (Go.Value.int Go.IntKind.u32 0), (Go.Value.int Go.IntKind.u32 0), (Go.Value.int Go.IntKind.i64 0), undef, undef, undef, undef, undef, undef, undef, undef, undef, undef, undef, undef, undef, undef, undef, undef, undef, undef, undef, undef, undef, undef, undef, undef, undef, undef, undef, undef] [] w
noncomputable def s43 (x0 x1 : Value) (w : World) : Option (Value × World) :=
  loopR s43B0 s43R0 [x0, x1, (Go.Value.int Go.IntKind.u32 0), (Go.Value.int Go.IntKind.i64 0)] w
theorem s43B0eq (x0 x1 x5 x6 : Value) (w : World) (g : Nat → Value) (d : List Deferred) : evK Try.prog 43 none (nav [1, 1, 0, 1, 0, 0] (bodyOf Try.f43)) none _ (frm 35 (setL [0, 1, 5, 6] [x0, x1, x5, x6] g) d) w (projK [0, 1, 5, 6]) = s43B0 [x0, x1, x5, x6] w := by kernel_rfl
theorem s43R0x0eq (x0 x1 x5 x6 : Value) (g : Nat → Value) (w : World) : s43K1 (Exit.exit 0) (frm 35 (setL [0, 1, 5, 6] [x0, x1, x5, x6] g) []) w = s43R0 (Exit.exit 0) [x0, x1, x5, x6] w := by kernel_rfl
theorem s43R0of : ∀ (e : Exit) (xs : List Value) (w : World) (g : Nat → Value) (y : _), s43R0 e xs w = some y → s43K1 e (frm 35 (setL [0, 1, 5, 6] xs g) []) w = some y := by
  intro e xs w g y h
  unfold s43R0 at h
  split at h
  · exact (s43R0x0eq _ _ _ _ g _).trans h
  · cases h
theorem s43L0of {s0 s1 s2 s3 s4 s5 s6 s7 s8 s9 s10 s11 s12 s13 s14 s15 s16 s17 s18 s19 s20 s21 s22 s23 s24 s25 s26 s27 s28 s29 s30 s31 s32 s33 s34 : Value} {w : World} {r : _} (h : loopR s43B0 s43R0 [s0, s1, s5, s6] w = some r) : s43L0 [s0, s1, s2, s3, s4, s5, s6, s7, s8, s9, s10, s11, s12, s13, s14, s15, s16, s17, s18, s19, s20, s21, s22, s23, s24, s25, s26, s27, s28, s29, s30, s31, s32, s33, s34] [] w = some r :=
  loopN_of (B := s43B0) (R := s43R0) (n := 35) (live := [0, 1, 5, 6]) (fun xs w g y hl h => match xs, hl, h with | [x0, x1, x5, x6], _, h => (s43B0eq x0 x1 x5 x6 w g []).trans h) (by kernel_rfl) (s43R0of) (fun i => ([s0, s1, s2, s3, s4, s5, s6, s7, s8, s9, s10, s11, s12, s13, s14, s15, s16, s17, s18, s19, s20, s21, s22, s23, s24, s25, s26, s27, s28, s29, s30, s31, s32, s33, s34] : List Value).getD i undef) (by kernel_rfl) rfl h
theorem s43eq (x0 x1 : Value) (w : World) : evK Try.prog 43 none (bodyOf Try.f43) none _ { tmps := (([x0, x1] : List Value) ++ List.replicate (35 - 2) undef).toArray, defers := [] } w (leaveK Try.prog Try.f43) = s43raw x0 x1 w := by kernel_rfl
theorem c43 {x0 x1 : Value} {w : World} {r : Value × World} (h : s43 x0 x1 w = some r) : C Try.prog 43 #[x0, x1] w = some r :=
  C_ev follows_all drawLaw (by kernel_rfl) Try.func43 (by rfl) ((s43eq x0 x1 w).trans (show s43raw x0 x1 w = some r from (s43L0of) h))
theorem e43 {x0 x1 : Value} {w : World} {Q : Value × World → Prop} (h : Brings (s43 x0 x1 w) Q) : Brings (Xcall Try.prog (Value.func (Fn.func 43) #[] #[]) #[x0, x1] w) Q :=
  h.call (Xcall_fn Try.func43 (by decide +kernel) (by rfl) _ _ _ w) fun _ h => c43 h

/-! slices.Backward[[]lychgate/seqadj.part,lychgate/seqadj.part]$1 -/
noncomputable def s44K0 : Exit → Act → World → Option (Value × World) := blockK 0 (leaveK Try.prog Try.f44)
noncomputable def s44L0 (s : List Value) (d : List Deferred) (w : World) : Option (Value × World) := loopN Try.prog 44 none (nav [1, 0, 0] (bodyOf Try.f44)) s44K0 s d w
noncomputable def s44B0 : List Value → World → Option (Exit × List Value × World)
  | [x0, x1, x3], w =>
    (Qbin Try.prog Go.BinOp.geq 3 x3 (Go.Value.int Go.IntKind.i64 0)).bind fun v1028 =>
    condK v1028 (
      (Qload Try.prog 64 x1 w).bind fun v1029 =>
      (QindexAddr Try.prog 64 v1029 x3 w).bind fun v1030 =>
      (Qload Try.prog 63 v1030 w).bind fun v1031 =>
      (Xcall Try.prog x0 #[x3, v1031] w).bind fun r1032 =>
      (Qun Go.UnOp.not r1032.1).bind fun v1033 =>
      condK v1033 (
        some (Exit.ret, [x0, x1, x3], r1032.2)
      ) (
        (Qbin Try.prog Go.BinOp.sub 3 x3 (Go.Value.int Go.IntKind.i64 1)).bind fun v1034 =>
        some (Exit.normal, [x0, x1, v1034], r1032.2)
      )
    ) (
      some ((Exit.exit 0), [x0, x1, x3], w)
    )
  | _, _ => none
noncomputable def s44R0 : Exit → List Value → World → Option (Value × World)
  | (Exit.exit 0), [_, _, _], w =>
    some ((Value.tuple #[]), w)
  | Exit.ret, [_, _, _], w =>
    some ((Value.tuple #[]), w)
  | _, _, _ => none
noncomputable def s44raw (x0 x1 : Value) (w : World) : Option (Value × World) :=
  (Qload Try.prog 64 x1 w).bind fun v1025 =>
  (Qlen Try.prog #[64] 3 #[v1025] w).bind fun v1026 =>
  (Qbin Try.prog Go.BinOp.sub 3 v1026 (Go.Value.int Go.IntKind.i64 1)).bind fun v1027 =>
  s44L0 [x0, x1, undef, v1027, v1025, v1026, v1027, undef, undef, undef, undef, undef, undef, undef, undef, undef, undef, undef, undef] [] w
noncomputable def s44 (x0 x1 : Value) (w : World) : Option (Value × World) :=
  (Qload Try.prog 64 x1 w).bind fun v1025 =>
  (Qlen Try.prog #[64] 3 #[v1025] w).bind fun v1026 =>
  (Qbin Try.prog Go.BinOp.sub 3 v1026 (Go.Value.int Go.IntKind.i64 1)).bind fun v1027 =>
  loopR s44B0 s44R0 [x0, x1, v1027] w
theorem s44B0eq (x0 x1 x3 : Value) (w : World) (g : Nat → Value) (d : List Deferred) : evK Try.prog 44 none (nav [1, 0, 0] (bodyOf Try.f44)) none _ (frm 19 (setL [0, 1, 3] [x0, x1, x3] g) d) w (projK [0, 1, 3]) = s44B0 [x0, x1, x3] w := by kernel_rfl
theorem s44R0x0eq (x0 x1 x3 : Value) (g : Nat → Value) (w : World) : s44K0 (Exit.exit 0) (frm 19 (setL [0, 1, 3] [x0, x1, x3] g) []) w = s44R0 (Exit.exit 0) [x0, x1, x3] w := by kernel_rfl
theorem s44R0ret_eq (x0 x1 x3 : Value) (g : Nat → Value) (w : World) : s44K0 Exit.ret (frm 19 (setL [0, 1, 3] [x0, x1, x3] g) []) w = s44R0 Exit.ret [x0, x1, x3] w := by kernel_rfl
theorem s44R0of : ∀ (e : Exit) (xs : List Value) (w : World) (g : Nat → Value) (y : _), s44R0 e xs w = some y → s44K0 e (frm 19 (setL [0, 1, 3] xs g) []) w = some y := by
  intro e xs w g y h
  unfold s44R0 at h
  split at h
  · exact (s44R0x0eq _ _ _ g _).trans h
  · exact (s44R0ret_eq _ _ _ g _).trans h
  · cases h
theorem s44L0of {s0 s1 s2 s3 s4 s5 s6 s7 s8 s9 s10 s11 s12 s13 s14 s15 s16 s17 s18 : Value} {w : World} {r : _} (h : loopR s44B0 s44R0 [s0, s1, s3] w = some r) : s44L0 [s0, s1, s2, s3, s4, s5, s6, s7, s8, s9, s10, s11, s12, s13, s14, s15, s16, s17, s18] [] w = some r :=
  loopN_of (B := s44B0) (R := s44R0) (n := 19) (live := [0, 1, 3]) (fun xs w g y hl h => match xs, hl, h with | [x0, x1, x3], _, h => (s44B0eq x0 x1 x3 w g []).trans h) (by kernel_rfl) (s44R0of) (fun i => ([s0, s1, s2, s3, s4, s5, s6, s7, s8, s9, s10, s11, s12, s13, s14, s15, s16, s17, s18] : List Value).getD i undef) (by kernel_rfl) rfl h
theorem s44eq (x0 x1 : Value) (w : World) : evK Try.prog 44 none (bodyOf Try.f44) none _ { tmps := (([x0, x1] : List Value) ++ List.replicate (19 - 2) undef).toArray, defers := [] } w (leaveK Try.prog Try.f44) = s44raw x0 x1 w := by kernel_rfl
theorem c44 {x0 x1 : Value} {w : World} {r : Value × World} (h : s44 x0 x1 w = some r) : C Try.prog 44 #[x0, x1] w = some r :=
  C_ev follows_all drawLaw (by kernel_rfl) Try.func44 (by rfl) ((s44eq x0 x1 w).trans (show s44raw x0 x1 w = some r from (Ev.bind_mono fun (v1025 : Value) => (Ev.bind_mono fun (v1026 : Value) => (Ev.bind_mono fun (v1027 : Value) => (s44L0of)))) h))
theorem e44 {x0 x1 : Value} {w : World} {Q : Value × World → Prop} (h : Brings (s44 x0 x1 w) Q) : Brings (Xcall Try.prog (Value.func (Fn.func 44) #[] #[x1]) #[x0] w) Q :=
  h.call (Xcall_fn Try.func44 (by decide +kernel) (by rfl) _ _ _ w) fun _ h => c44 h

end Go.Proofs.Ytfakpdegiobpaaa
