/- The functions of the program, by their texts. -/
import Derived.Test.YtebhknagnkcldaaDoorFa
import Derived.Test.YtebhknagnkcldaaDoorProg
import Derived.KernelRfl
namespace Go.Proofs.YtebhknagnkcldaaDoor
open Go Go.Ev
open Go.Proofs
theorem follows_all : Tryd.prog.follows .mixedOrders = true := by kernel_rfl
/-! lychgate/lychgatelaw08.PoolPlays -/
noncomputable def s3K0 : Exit → Act → World → Option (Value × World) := seqK (fun a w => evK Tryd.prog 3 none (nav [1, 1, 1, 1] (bodyOf Tryd.f3)) none _ a w (leaveK Tryd.prog Tryd.f3)) (leaveK Tryd.prog Tryd.f3)
noncomputable def s3J0 (s : List Value) (d : List Deferred) (w : World) : Option (Value × World) := s3K0 .normal ⟨s.toArray, d⟩ w
noncomputable def s3M0 (s7 s8 s9 s10 : Value) (w : World) : Option (Value × World) :=
  (Xcall Tryd.prog (Value.func (Fn.func 12) #[] #[]) #[] w).bind fun r10 =>
  (Qpick r10.1 (gv (isB r10.1 true) s9) (Go.Value.bool false)).bind fun v11 =>
  (guardX v11 true r10.2 (Xcall Tryd.prog (Value.func (Fn.func 13) #[] #[]) #[(gv (isB v11 true) s7), (gv (isB v11 true) s8), (gv (isB v11 true) s10)] r10.2)).bind fun r12 =>
  (Qpick v11 r12.1 (Go.Value.bool false)).bind fun v13 =>
  some (v13, r12.2)
noncomputable def s3raw (x0 x1 x2 : Value) (w : World) : Option (Value × World) :=
  (Xcall Tryd.prog (Value.func (Fn.func 11) #[] #[]) #[x0, x1, x2] w).bind fun r1 =>
  (Qext r1.1 0).bind fun v2 =>
  (Qext r1.1 1).bind fun v3 =>
  (Qext r1.1 2).bind fun v4 =>
  (Qlen Tryd.prog #[23] 3 #[x2] r1.2).bind fun v5 =>
  (Qbin Tryd.prog Go.BinOp.gtr 3 v5 (Go.Value.int Go.IntKind.i64 0)).bind fun v6 =>
  condK v6 (
    (QindexAddr Tryd.prog 23 x2 (Go.Value.int Go.IntKind.i64 0) r1.2).bind fun v7 =>
    (QfieldAddr Tryd.prog 29 v7 1).bind fun v8 =>
    (Qload Tryd.prog 22 v8 r1.2).bind fun v9 =>
    s3J0 [x0, x1, x2, undef, undef, undef, (Go.Value.bool false), v2, v3, v4, v9, r1.1, x0, x1, x2, r1.1, v2, v3, v4, x0, x2, v5, v6, x2, v7, v8, v9, undef, undef, undef, undef, undef, undef, undef, undef, undef, undef] [] r1.2
  ) (
    s3J0 [x0, x1, x2, undef, undef, undef, (Go.Value.bool false), v2, v3, v4, x0, r1.1, x0, x1, x2, r1.1, v2, v3, v4, x0, x2, v5, v6, undef, undef, undef, undef, undef, undef, undef, undef, undef, undef, undef, undef, undef, undef] [] r1.2
  )
noncomputable def s3 (x0 x1 x2 : Value) (w : World) : Option (Value × World) :=
  (Xcall Tryd.prog (Value.func (Fn.func 11) #[] #[]) #[x0, x1, x2] w).bind fun r1 =>
  (Qext r1.1 0).bind fun v2 =>
  (Qext r1.1 1).bind fun v3 =>
  (Qext r1.1 2).bind fun v4 =>
  (Qlen Tryd.prog #[23] 3 #[x2] r1.2).bind fun v5 =>
  (Qbin Tryd.prog Go.BinOp.gtr 3 v5 (Go.Value.int Go.IntKind.i64 0)).bind fun v6 =>
  condK v6 (
    (QindexAddr Tryd.prog 23 x2 (Go.Value.int Go.IntKind.i64 0) r1.2).bind fun v7 =>
    (QfieldAddr Tryd.prog 29 v7 1).bind fun v8 =>
    (Qload Tryd.prog 22 v8 r1.2).bind fun v9 =>
    s3M0 v2 v3 v4 v9 r1.2
  ) (
    s3M0 v2 v3 v4 x0 r1.2
  )
theorem s3J0eq (s0 s1 s2 s3 s4 s5 s6 s7 s8 s9 s10 s11 s12 s13 s14 s15 s16 s17 s18 s19 s20 s21 s22 s23 s24 s25 s26 s27 s28 s29 s30 s31 s32 s33 s34 s35 s36 : Value) (w : World) : s3J0 [s0, s1, s2, s3, s4, s5, s6, s7, s8, s9, s10, s11, s12, s13, s14, s15, s16, s17, s18, s19, s20, s21, s22, s23, s24, s25, s26, s27, s28, s29, s30, s31, s32, s33, s34, s35, s36] [] w = s3M0 s7 s8 s9 s10 w := (show s3J0 [s0, s1, s2, s3, s4, s5, s6, s7, s8, s9, s10, s11, s12, s13, s14, s15, s16, s17, s18, s19, s20, s21, s22, s23, s24, s25, s26, s27, s28, s29, s30, s31, s32, s33, s34, s35, s36] [] w = evK Tryd.prog 3 none (nav [1, 1, 1, 1] (bodyOf Tryd.f3)) none _ ⟨[s0, s1, s2, s3, s4, s5, s6, s7, s8, s9, s10, s11, s12, s13, s14, s15, s16, s17, s18, s19, s20, s21, s22, s23, s24, s25, s26, s27, s28, s29, s30, s31, s32, s33, s34, s35, s36].toArray, []⟩ w (leaveK Tryd.prog Tryd.f3) from by kernel_rfl).trans (by kernel_rfl)
theorem s3J0of {s0 s1 s2 s3 s4 s5 s6 s7 s8 s9 s10 s11 s12 s13 s14 s15 s16 s17 s18 s19 s20 s21 s22 s23 s24 s25 s26 s27 s28 s29 s30 s31 s32 s33 s34 s35 s36 : Value} {w : World} {r : _} (h : s3M0 s7 s8 s9 s10 w = some r) : s3J0 [s0, s1, s2, s3, s4, s5, s6, s7, s8, s9, s10, s11, s12, s13, s14, s15, s16, s17, s18, s19, s20, s21, s22, s23, s24, s25, s26, s27, s28, s29, s30, s31, s32, s33, s34, s35, s36] [] w = some r :=
  ((s3J0eq s0 s1 s2 s3 s4 s5 s6 s7 s8 s9 s10 s11 s12 s13 s14 s15 s16 s17 s18 s19 s20 s21 s22 s23 s24 s25 s26 s27 s28 s29 s30 s31 s32 s33 s34 s35 s36 w).trans h)
theorem s3eq (x0 x1 x2 : Value) (w : World) : evK Tryd.prog 3 none (bodyOf Tryd.f3) none _ { tmps := (([x0, x1, x2] : List Value) ++ List.replicate (37 - 3) undef).toArray, defers := [] } w (leaveK Tryd.prog Tryd.f3) = s3raw x0 x1 x2 w := by kernel_rfl
theorem c3 {x0 x1 x2 : Value} {w : World} {r : Value × World} (h : s3 x0 x1 x2 w = some r) : C Tryd.prog 3 #[x0, x1, x2] w = some r :=
  C_ev follows_all drawLaw (by kernel_rfl) Tryd.func3 (by rfl) ((s3eq x0 x1 x2 w).trans (show s3raw x0 x1 x2 w = some r from (Ev.bind_mono fun (r1 : Value × World) => (Ev.bind_mono fun (v2 : Value) => (Ev.bind_mono fun (v3 : Value) => (Ev.bind_mono fun (v4 : Value) => (Ev.bind_mono fun (v5 : Value) => (Ev.bind_mono fun (v6 : Value) => (condK_mono (Ev.bind_mono fun (v7 : Value) => (Ev.bind_mono fun (v8 : Value) => (Ev.bind_mono fun (v9 : Value) => (s3J0of)))) (s3J0of)))))))) h))
theorem e3 {x0 x1 x2 : Value} {w : World} {Q : Value × World → Prop} (h : Brings (s3 x0 x1 x2 w) Q) : Brings (Xcall Tryd.prog (Value.func (Fn.func 3) #[] #[]) #[x0, x1, x2] w) Q :=
  h.call (Xcall_fn Tryd.func3 (by decide +kernel) (by rfl) _ _ _ w) fun _ h => c3 h

/-! lychgate/lychgatelaw08.PoolOnce -/
noncomputable def s4K0 : Exit → Act → World → Option (Value × World) := seqK (fun a w => evK Tryd.prog 4 none (nav [1, 1, 1, 1, 1] (bodyOf Tryd.f4)) none _ a w (leaveK Tryd.prog Tryd.f4)) (leaveK Tryd.prog Tryd.f4)
noncomputable def s4K1 : Exit → Act → World → Option (Value × World) := blockK 0 s4K0
noncomputable def s4L0 (s : List Value) (d : List Deferred) (w : World) : Option (Value × World) := loopN Tryd.prog 4 none (nav [1, 1, 1, 1, 0, 1, 0, 0] (bodyOf Tryd.f4)) s4K1 s d w
noncomputable def s4K2 : Exit → Act → World → Option (Exit × List Value × World) := seqK (fun a w => evK Tryd.prog 4 none (nav [1, 1, 1, 1, 0, 1, 0, 0, 1, 1] (bodyOf Tryd.f4)) none _ a w (projK [2, 6, 7, 10, 11, 12])) (projK [2, 6, 7, 10, 11, 12])
noncomputable def s4K3 : Exit → Act → World → Option (Exit × List Value × World) := blockK 1 s4K2
noncomputable def s4K4 : Exit → Act → World → Option (Exit × List Value × World) := seqK (fun a w => evK Tryd.prog 4 none (nav [1, 1, 1, 1, 0, 1, 0, 0, 1, 0, 0, 1, 1, 1] (bodyOf Tryd.f4)) none _ a w s4K3) s4K3
noncomputable def s4K5 : Exit → Act → World → Option (Exit × List Value × World) := blockK 2 s4K4
noncomputable def s4L1 (s : List Value) (d : List Deferred) (w : World) : Option (Exit × List Value × World) := loopN Tryd.prog 4 none (nav [1, 1, 1, 1, 0, 1, 0, 0, 1, 0, 0, 1, 1, 0, 1, 0, 0] (bodyOf Tryd.f4)) s4K5 s d w
noncomputable def s4B1 : List Value → World → Option (Exit × List Value × World)
  | [x2, x6, x7, x10, x11, x12, x13, x15], w =>
    (Qlen Tryd.prog #[33] 3 #[x11] w).bind fun v46 =>
    (Qbin Tryd.prog Go.BinOp.lss 3 x15 v46).bind fun v47 =>
    condK v47 (
      (QindexAddr Tryd.prog 33 x11 x15 w).bind fun v48 =>
      (Qload Tryd.prog 22 v48 w).bind fun v49 =>
      (Qbin Tryd.prog Go.BinOp.eql 22 v49 x13).bind fun v50 =>
      condK v50 (
        some (Exit.ret, [x2, (Go.Value.bool false), x7, x10, x11, x12, x13, x15], w)
      ) (
        (Qbin Tryd.prog Go.BinOp.add 3 x15 (Go.Value.int Go.IntKind.i64 1)).bind fun v51 =>
        some (Exit.normal, [x2, x6, x7, x10, x11, x12, x13, v51], w)
      )
    ) (
      some ((Exit.exit 2), [x2, x6, x7, x10, x11, x12, x13, x15], w)
    )
  | _, _ => none
noncomputable def s4R1 : Exit → List Value → World → Option (Exit × List Value × World)
  | (Exit.exit 2), [x2, x6, x7, x10, x11, x12, x13, _], w =>
    (Xcall Tryd.prog (Value.func (Fn.func 16) #[] #[]) #[x7, x13] w).bind fun r52 =>
    (Qun Go.UnOp.not r52.1).bind fun v53 =>
    condK v53 (
      some (Exit.ret, [x2, (Go.Value.bool false), x7, x10, x11, x12], r52.2)
    ) (
      (XbuildSlice Tryd.prog 33 1 #[(0, x13)] r52.2).bind fun r54 =>
      (Xbi Tryd.prog Go.Builtin.append #[33, 33] 33 #[x11, r54.1] r54.2).bind fun r55 =>
      (Qbin Tryd.prog Go.BinOp.add 3 x12 (Go.Value.int Go.IntKind.i64 1)).bind fun v56 =>
      some (Exit.normal, [x2, x6, x7, x10, r55.1, v56], r55.2)
    )
  | Exit.ret, [x2, x6, x7, x10, x11, x12, _, _], w =>
    some (Exit.ret, [x2, x6, x7, x10, x11, x12], w)
  | _, _, _ => none
noncomputable def s4B0raw (g : Nat → Value) (d : List Deferred) : List Value → World → Option (Exit × List Value × World)
  | [x2, x6, x7, x10, x11, x12], w =>
    (Qlen Tryd.prog #[33] 3 #[x2] w).bind fun v19 =>
    (Qbin Tryd.prog Go.BinOp.lss 3 x12 v19).bind fun v20 =>
    (guardQ v20 true (Qbin Tryd.prog Go.BinOp.lss 3 (gv (isB v20 true) x12) (Go.Value.int Go.IntKind.i64 100))).bind fun v21 =>
    (Qpick v20 v21 (Go.Value.bool false)).bind fun v22 =>
    condK v22 (
      (QindexAddr Tryd.prog 33 x2 x12 w).bind fun v23 =>
      (Qload Tryd.prog 22 v23 w).bind fun v24 =>
      (Xcall Tryd.prog (Value.func (Fn.func 15) #[] #[]) #[x7, v24] w).bind fun r25 =>
      (Qext r25.1 0).bind fun v26 =>
      (Qext r25.1 1).bind fun v27 =>
      (Qbin Tryd.prog Go.BinOp.neq 35 v27 (Go.Value.int Go.IntKind.i64 0)).bind fun v28 =>
      condK v28 (
        (Xcall Tryd.prog (Value.func (Fn.func 14) #[] #[]) #[x7] r25.2).bind fun r29 =>
        (Qbin Tryd.prog Go.BinOp.neq 3 r29.1 (Go.Value.int Go.IntKind.i64 0)).bind fun v30 =>
        (guardQ v30 false (Qlen Tryd.prog #[33] 3 #[(gv (isB v30 false) x11)] r29.2)).bind fun v31 =>
        (guardQ v30 false (Qbin Tryd.prog Go.BinOp.neq 3 v31 (gv (isB v30 false) x10))).bind fun v32 =>
        (Qpick v30 (Go.Value.bool true) v32).bind fun v33 =>
        condK v33 (
          some (Exit.ret, [x2, (Go.Value.bool false), x7, x10, x11, x12], r29.2)
        ) (
          (Qbin Tryd.prog Go.BinOp.add 3 x12 (Go.Value.int Go.IntKind.i64 1)).bind fun v34 =>
          some (Exit.normal, [x2, x6, x7, x10, x11, v34], r29.2)
        )
      ) (
        s4L1 [(g 0), (g 1), x2, (g 3), (g 4), (g 5), x6, x7, (g 8), (g 9), x10, x11, x12, v26, v27, (Go.Value.int Go.IntKind.i64 0), (g 16), (g 17), (g 18), (g 19), (g 20), (g 21), (g 22), (g 23), (g 24), x12, x2, v19, v20, v20, (gv (isB v20 true) x12), v21, v22, (g 33), (g 34), r25.1, x7, x2, x12, v23, v24, r25.1, v26, v27, v27, v28, (g 46), (g 47), (g 48), (g 49), (g 50), (g 51), (g 52), (g 53), (g 54), (g 55), (g 56), (g 57), (g 58), (g 59), (g 60), (g 61), (g 62), (g 63), (g 64), (g 65), (g 66), (g 67), (g 68), (g 69), (g 70), (g 71), (g 72), (g 73), (g 74), (g 75), (g 76), (g 77), (g 78), (g 79), (g 80), (g 81), (g 82), (g 83), (g 84), (g 85), (g 86), (g 87), (g 88), (g 89), (g 90), (g 91), (g 92)] d r25.2
      )
    ) (
      some ((Exit.exit 0), [x2, x6, x7, x10, x11, x12], w)
    )
  | _, _ => none
noncomputable def s4B0 : List Value → World → Option (Exit × List Value × World)
  | [x2, x6, x7, x10, x11, x12], w =>
    (Qlen Tryd.prog #[33] 3 #[x2] w).bind fun v19 =>
    (Qbin Tryd.prog Go.BinOp.lss 3 x12 v19).bind fun v20 =>
    (guardQ v20 true (Qbin Tryd.prog Go.BinOp.lss 3 (gv (isB v20 true) x12) (Go.Value.int Go.IntKind.i64 100))).bind fun v21 =>
    (Qpick v20 v21 (Go.Value.bool false)).bind fun v22 =>
    condK v22 (
      (QindexAddr Tryd.prog 33 x2 x12 w).bind fun v23 =>
      (Qload Tryd.prog 22 v23 w).bind fun v24 =>
      (Xcall Tryd.prog (Value.func (Fn.func 15) #[] #[]) #[x7, v24] w).bind fun r25 =>
      (Qext r25.1 0).bind fun v26 =>
      (Qext r25.1 1).bind fun v27 =>
      (Qbin Tryd.prog Go.BinOp.neq 35 v27 (Go.Value.int Go.IntKind.i64 0)).bind fun v28 =>
      condK v28 (
        (Xcall Tryd.prog (Value.func (Fn.func 14) #[] #[]) #[x7] r25.2).bind fun r29 =>
        (Qbin Tryd.prog Go.BinOp.neq 3 r29.1 (Go.Value.int Go.IntKind.i64 0)).bind fun v30 =>
        (guardQ v30 false (Qlen Tryd.prog #[33] 3 #[(gv (isB v30 false) x11)] r29.2)).bind fun v31 =>
        (guardQ v30 false (Qbin Tryd.prog Go.BinOp.neq 3 v31 (gv (isB v30 false) x10))).bind fun v32 =>
        (Qpick v30 (Go.Value.bool true) v32).bind fun v33 =>
        condK v33 (
          some (Exit.ret, [x2, (Go.Value.bool false), x7, x10, x11, x12], r29.2)
        ) (
          (Qbin Tryd.prog Go.BinOp.add 3 x12 (Go.Value.int Go.IntKind.i64 1)).bind fun v34 =>
          some (Exit.normal, [x2, x6, x7, x10, x11, v34], r29.2)
        )
      ) (
        loopR s4B1 s4R1 [x2, x6, x7, x10, x11, x12, v26, (Go.Value.int Go.IntKind.i64 0)] r25.2
      )
    ) (
      some ((Exit.exit 0), [x2, x6, x7, x10, x11, x12], w)
    )
  | _, _ => none
noncomputable def s4R0 : Exit → List Value → World → Option (Value × World)
  | (Exit.exit 0), [_, _, x7, x10, x11, _], w =>
    (Xcall Tryd.prog (Value.func (Fn.func 12) #[] #[]) #[] w).bind fun r35 =>
    (guardX r35.1 true r35.2 (Xcall Tryd.prog (Value.func (Fn.func 14) #[] #[]) #[(gv (isB r35.1 true) x7)] r35.2)).bind fun r36 =>
    (guardQ r35.1 true (Qlen Tryd.prog #[33] 3 #[(gv (isB r35.1 true) x11)] r36.2)).bind fun v37 =>
    (guardQ r35.1 true (Qbin Tryd.prog Go.BinOp.sub 3 (gv (isB r35.1 true) x10) v37)).bind fun v38 =>
    (guardQ r35.1 true (Qbin Tryd.prog Go.BinOp.eql 3 r36.1 v38)).bind fun v39 =>
    (Qpick r35.1 v39 (Go.Value.bool false)).bind fun v40 =>
    (guardX v40 true r36.2 (Xcall Tryd.prog (Value.func (Fn.func 17) #[] #[]) #[(gv (isB v40 true) x7)] r36.2)).bind fun r41 =>
    (guardQ v40 true (Qlen Tryd.prog #[33] 3 #[r41.1] r41.2)).bind fun v42 =>
    (guardQ v40 true (Qlen Tryd.prog #[33] 3 #[(gv (isB v40 true) x11)] r41.2)).bind fun v43 =>
    (guardQ v40 true (Qbin Tryd.prog Go.BinOp.eql 3 v42 v43)).bind fun v44 =>
    (Qpick v40 v44 (Go.Value.bool false)).bind fun v45 =>
    some (v45, r41.2)
  | Exit.ret, [_, x6, _, _, _, _], w =>
    some (x6, w)
  | _, _, _ => none
noncomputable def s4raw (x0 x1 x2 : Value) (w : World) : Option (Value × World) :=
  (Xcall Tryd.prog (Value.func (Fn.func 11) #[] #[]) #[x0, x1, (Go.Value.slice none 0 0)] w).bind fun r14 =>
  (Qext r14.1 0).bind fun v15 =>
  (Qext r14.1 1).bind fun v16 =>
  (Qext r14.1 2).bind fun v17 =>
  (Xcall Tryd.prog (Value.func (Fn.func 14) #[] #[]) #[v15] r14.2).bind fun r18 =>
  s4L0 [x0, x1, x2, undef, undef, undef, (Go.Value.bool false), v15, v16, v17, r18.1, (Go.Value.slice none 0 0), (Go.Value.int Go.IntKind.i64 0), undef, undef, undef, r14.1, x0, x1, r14.1, v15, v16, v17, v15, r18.1, undef, undef, undef, undef, undef, undef, undef, undef, undef, undef, undef, undef, undef, undef, undef, undef, undef, undef, undef, undef, undef, undef, undef, undef, undef, undef, undef, undef, undef, undef, undef, undef, undef, undef, undef, undef, undef, undef, undef, undef, undef, undef, undef, undef, undef, undef, undef, undef, undef, undef, undef, undef, undef, undef, undef, undef, undef, undef, undef, undef, undef, undef, undef, undef, undef, undef, undef, undef] [] r18.2
noncomputable def s4 (x0 x1 x2 : Value) (w : World) : Option (Value × World) :=
  (Xcall Tryd.prog (Value.func (Fn.func 11) #[] #[]) #[x0, x1, (Go.Value.slice none 0 0)] w).bind fun r14 =>
  (Qext r14.1 0).bind fun v15 =>
  (Qext r14.1 1).bind fun _ =>
  (Qext r14.1 2).bind fun _ =>
  (Xcall Tryd.prog (Value.func (Fn.func 14) #[] #[]) #[v15] r14.2).bind fun r18 =>
  loopR s4B0 s4R0 [x2, (Go.Value.bool false), v15, r18.1, (Go.Value.slice none 0 0), (Go.Value.int Go.IntKind.i64 0)] r18.2
theorem s4B1eq (x2 x6 x7 x10 x11 x12 x13 x15 : Value) (w : World) (g : Nat → Value) (d : List Deferred) : evK Tryd.prog 4 none (nav [1, 1, 1, 1, 0, 1, 0, 0, 1, 0, 0, 1, 1, 0, 1, 0, 0] (bodyOf Tryd.f4)) none _ (frm 93 (setL [2, 6, 7, 10, 11, 12, 13, 15] [x2, x6, x7, x10, x11, x12, x13, x15] g) d) w (projK [2, 6, 7, 10, 11, 12, 13, 15]) = s4B1 [x2, x6, x7, x10, x11, x12, x13, x15] w := by kernel_rfl
theorem s4R1x2eq (x2 x6 x7 x10 x11 x12 x13 x15 : Value) (g : Nat → Value) (w : World) : s4K5 (Exit.exit 2) (frm 93 (setL [2, 6, 7, 10, 11, 12, 13, 15] [x2, x6, x7, x10, x11, x12, x13, x15] g) []) w = s4R1 (Exit.exit 2) [x2, x6, x7, x10, x11, x12, x13, x15] w := by kernel_rfl
theorem s4R1ret_eq (x2 x6 x7 x10 x11 x12 x13 x15 : Value) (g : Nat → Value) (w : World) : s4K5 Exit.ret (frm 93 (setL [2, 6, 7, 10, 11, 12, 13, 15] [x2, x6, x7, x10, x11, x12, x13, x15] g) []) w = s4R1 Exit.ret [x2, x6, x7, x10, x11, x12, x13, x15] w := by kernel_rfl
theorem s4R1of : ∀ (e : Exit) (xs : List Value) (w : World) (g : Nat → Value) (y : _), s4R1 e xs w = some y → s4K5 e (frm 93 (setL [2, 6, 7, 10, 11, 12, 13, 15] xs g) []) w = some y := by
  intro e xs w g y h
  unfold s4R1 at h
  split at h
  · exact (s4R1x2eq _ _ _ _ _ _ _ _ g _).trans h
  · exact (s4R1ret_eq _ _ _ _ _ _ _ _ g _).trans h
  · cases h
theorem s4L1of {s0 s1 s2 s3 s4 s5 s6 s7 s8 s9 s10 s11 s12 s13 s14 s15 s16 s17 s18 s19 s20 s21 s22 s23 s24 s25 s26 s27 s28 s29 s30 s31 s32 s33 s34 s35 s36 s37 s38 s39 s40 s41 s42 s43 s44 s45 s46 s47 s48 s49 s50 s51 s52 s53 s54 s55 s56 s57 s58 s59 s60 s61 s62 s63 s64 s65 s66 s67 s68 s69 s70 s71 s72 s73 s74 s75 s76 s77 s78 s79 s80 s81 s82 s83 s84 s85 s86 s87 s88 s89 s90 s91 s92 : Value} {w : World} {r : _} (h : loopR s4B1 s4R1 [s2, s6, s7, s10, s11, s12, s13, s15] w = some r) : s4L1 [s0, s1, s2, s3, s4, s5, s6, s7, s8, s9, s10, s11, s12, s13, s14, s15, s16, s17, s18, s19, s20, s21, s22, s23, s24, s25, s26, s27, s28, s29, s30, s31, s32, s33, s34, s35, s36, s37, s38, s39, s40, s41, s42, s43, s44, s45, s46, s47, s48, s49, s50, s51, s52, s53, s54, s55, s56, s57, s58, s59, s60, s61, s62, s63, s64, s65, s66, s67, s68, s69, s70, s71, s72, s73, s74, s75, s76, s77, s78, s79, s80, s81, s82, s83, s84, s85, s86, s87, s88, s89, s90, s91, s92] [] w = some r :=
  loopN_of (B := s4B1) (R := s4R1) (n := 93) (live := [2, 6, 7, 10, 11, 12, 13, 15]) (fun xs w g y hl h => match xs, hl, h with | [x2, x6, x7, x10, x11, x12, x13, x15], _, h => (s4B1eq x2 x6 x7 x10 x11 x12 x13 x15 w g []).trans h) (by kernel_rfl) (s4R1of) (fun i => ([s0, s1, s2, s3, s4, s5, s6, s7, s8, s9, s10, s11, s12, s13, s14, s15, s16, s17, s18, s19, s20, s21, s22, s23, s24, s25, s26, s27, s28, s29, s30, s31, s32, s33, s34, s35, s36, s37, s38, s39, s40, s41, s42, s43, s44, s45, s46, s47, s48, s49, s50, s51, s52, s53, s54, s55, s56, s57, s58, s59, s60, s61, s62, s63, s64, s65, s66, s67, s68, s69, s70, s71, s72, s73, s74, s75, s76, s77, s78, s79, s80, s81, s82, s83, s84, s85, s86, s87, s88, s89, s90, s91, s92] : List Value).getD i undef) (by kernel_rfl) rfl h
theorem s4B0eq (x2 x6 x7 x10 x11 x12 : Value) (w : World) (g : Nat → Value) (d : List Deferred) : evK Tryd.prog 4 none (nav [1, 1, 1, 1, 0, 1, 0, 0] (bodyOf Tryd.f4)) none _ (frm 93 (setL [2, 6, 7, 10, 11, 12] [x2, x6, x7, x10, x11, x12] g) d) w (projK [2, 6, 7, 10, 11, 12]) = s4B0raw g d [x2, x6, x7, x10, x11, x12] w := by kernel_rfl
theorem s4R0x0eq (x2 x6 x7 x10 x11 x12 : Value) (g : Nat → Value) (w : World) : s4K1 (Exit.exit 0) (frm 93 (setL [2, 6, 7, 10, 11, 12] [x2, x6, x7, x10, x11, x12] g) []) w = s4R0 (Exit.exit 0) [x2, x6, x7, x10, x11, x12] w := by kernel_rfl
theorem s4R0ret_eq (x2 x6 x7 x10 x11 x12 : Value) (g : Nat → Value) (w : World) : s4K1 Exit.ret (frm 93 (setL [2, 6, 7, 10, 11, 12] [x2, x6, x7, x10, x11, x12] g) []) w = s4R0 Exit.ret [x2, x6, x7, x10, x11, x12] w := by kernel_rfl
theorem s4R0of : ∀ (e : Exit) (xs : List Value) (w : World) (g : Nat → Value) (y : _), s4R0 e xs w = some y → s4K1 e (frm 93 (setL [2, 6, 7, 10, 11, 12] xs g) []) w = some y := by
  intro e xs w g y h
  unfold s4R0 at h
  split at h
  · exact (s4R0x0eq _ _ _ _ _ _ g _).trans h
  · exact (s4R0ret_eq _ _ _ _ _ _ g _).trans h
  · cases h
theorem s4L0of {s0 s1 s2 s3 s4 s5 s6 s7 s8 s9 s10 s11 s12 s13 s14 s15 s16 s17 s18 s19 s20 s21 s22 s23 s24 s25 s26 s27 s28 s29 s30 s31 s32 s33 s34 s35 s36 s37 s38 s39 s40 s41 s42 s43 s44 s45 s46 s47 s48 s49 s50 s51 s52 s53 s54 s55 s56 s57 s58 s59 s60 s61 s62 s63 s64 s65 s66 s67 s68 s69 s70 s71 s72 s73 s74 s75 s76 s77 s78 s79 s80 s81 s82 s83 s84 s85 s86 s87 s88 s89 s90 s91 s92 : Value} {w : World} {r : _} (h : loopR s4B0 s4R0 [s2, s6, s7, s10, s11, s12] w = some r) : s4L0 [s0, s1, s2, s3, s4, s5, s6, s7, s8, s9, s10, s11, s12, s13, s14, s15, s16, s17, s18, s19, s20, s21, s22, s23, s24, s25, s26, s27, s28, s29, s30, s31, s32, s33, s34, s35, s36, s37, s38, s39, s40, s41, s42, s43, s44, s45, s46, s47, s48, s49, s50, s51, s52, s53, s54, s55, s56, s57, s58, s59, s60, s61, s62, s63, s64, s65, s66, s67, s68, s69, s70, s71, s72, s73, s74, s75, s76, s77, s78, s79, s80, s81, s82, s83, s84, s85, s86, s87, s88, s89, s90, s91, s92] [] w = some r :=
  loopN_of (B := s4B0) (R := s4R0) (n := 93) (live := [2, 6, 7, 10, 11, 12]) (fun xs w g y hl h => match xs, hl, h with | [x2, x6, x7, x10, x11, x12], _, h => (s4B0eq x2 x6 x7 x10 x11 x12 w g []).trans (show s4B0raw g [] [x2, x6, x7, x10, x11, x12] w = some y from (Ev.bind_mono fun (v19 : Value) => (Ev.bind_mono fun (v20 : Value) => (Ev.bind_mono fun (v21 : Value) => (Ev.bind_mono fun (v22 : Value) => (condK_mono (Ev.bind_mono fun (v23 : Value) => (Ev.bind_mono fun (v24 : Value) => (Ev.bind_mono fun (r25 : Value × World) => (Ev.bind_mono fun (v26 : Value) => (Ev.bind_mono fun (v27 : Value) => (Ev.bind_mono fun (v28 : Value) => (condK_mono id (s4L1of)))))))) id))))) h)) (by kernel_rfl) (s4R0of) (fun i => ([s0, s1, s2, s3, s4, s5, s6, s7, s8, s9, s10, s11, s12, s13, s14, s15, s16, s17, s18, s19, s20, s21, s22, s23, s24, s25, s26, s27, s28, s29, s30, s31, s32, s33, s34, s35, s36, s37, s38, s39, s40, s41, s42, s43, s44, s45, s46, s47, s48, s49, s50, s51, s52, s53, s54, s55, s56, s57, s58, s59, s60, s61, s62, s63, s64, s65, s66, s67, s68, s69, s70, s71, s72, s73, s74, s75, s76, s77, s78, s79, s80, s81, s82, s83, s84, s85, s86, s87, s88, s89, s90, s91, s92] : List Value).getD i undef) (by kernel_rfl) rfl h
theorem s4eq (x0 x1 x2 : Value) (w : World) : evK Tryd.prog 4 none (bodyOf Tryd.f4) none _ { tmps := (([x0, x1, x2] : List Value) ++ List.replicate (93 - 3) undef).toArray, defers := [] } w (leaveK Tryd.prog Tryd.f4) = s4raw x0 x1 x2 w := by kernel_rfl
theorem c4 {x0 x1 x2 : Value} {w : World} {r : Value × World} (h : s4 x0 x1 x2 w = some r) : C Tryd.prog 4 #[x0, x1, x2] w = some r :=
  C_ev follows_all drawLaw (by kernel_rfl) Tryd.func4 (by rfl) ((s4eq x0 x1 x2 w).trans (show s4raw x0 x1 x2 w = some r from (Ev.bind_mono fun (r14 : Value × World) => (Ev.bind_mono fun (v15 : Value) => (Ev.bind_mono fun (v16 : Value) => (Ev.bind_mono fun (v17 : Value) => (Ev.bind_mono fun (r18 : Value × World) => (s4L0of)))))) h))
theorem e4 {x0 x1 x2 : Value} {w : World} {Q : Value × World → Prop} (h : Brings (s4 x0 x1 x2 w) Q) : Brings (Xcall Tryd.prog (Value.func (Fn.func 4) #[] #[]) #[x0, x1, x2] w) Q :=
  h.call (Xcall_fn Tryd.func4 (by decide +kernel) (by rfl) _ _ _ w) fun _ h => c4 h

/-! lychgate/lychgatelaw08.PoolBack -/
noncomputable def s5K0 : Exit → Act → World → Option (Value × World) := seqK (fun a w => evK Tryd.prog 5 none (nav [1, 1, 1, 1, 1] (bodyOf Tryd.f5)) none _ a w (leaveK Tryd.prog Tryd.f5)) (leaveK Tryd.prog Tryd.f5)
noncomputable def s5J0 (s : List Value) (d : List Deferred) (w : World) : Option (Value × World) := s5K0 .normal ⟨s.toArray, d⟩ w
noncomputable def s5M0 (s7 s8 s10 : Value) (w : World) : Option (Value × World) :=
  (Xcall Tryd.prog (Value.func (Fn.func 15) #[] #[]) #[s7, s10] w).bind fun r70 =>
  (Qext r70.1 0).bind fun v71 =>
  (Qext r70.1 1).bind fun v72 =>
  (Qbin Tryd.prog Go.BinOp.eql 35 v72 (Go.Value.int Go.IntKind.i64 0)).bind fun v73 =>
  (guardX v73 true r70.2 (Xcall Tryd.prog (Value.func (Fn.func 18) #[] #[]) #[(gv (isB v73 true) s7), (gv (isB v73 true) v71)] r70.2)).bind fun r74 =>
  (guardQ v73 true (Qbin Tryd.prog Go.BinOp.neq 35 r74.1 (Go.Value.int Go.IntKind.i64 0))).bind fun v75 =>
  (Qpick v73 v75 (Go.Value.bool false)).bind fun v76 =>
  condK v76 (
    some ((Go.Value.bool false), r74.2)
  ) (
    (Xcall Tryd.prog (Value.func (Fn.func 19) #[] #[]) #[s7, s10] r74.2).bind fun r77 =>
    (Qext r77.1 0).bind fun v78 =>
    (Qext r77.1 1).bind fun v79 =>
    (Qbin Tryd.prog Go.BinOp.eql 35 v79 (Go.Value.int Go.IntKind.i64 0)).bind fun v80 =>
    (guardQ v80 true (Qbin Tryd.prog Go.BinOp.rem 22 (gv (isB v80 true) v78) (Go.Value.int Go.IntKind.u16 2))).bind fun v81 =>
    (guardQ v80 true (Qbin Tryd.prog Go.BinOp.neq 22 v81 (Go.Value.int Go.IntKind.u16 0))).bind fun v82 =>
    (guardX (gv (isB v80 true) v82) false r77.2 (Xcall Tryd.prog (Value.func (Fn.func 18) #[] #[]) #[(gv (isB (gv (isB v80 true) v82) false) s7), (gv (isB (gv (isB v80 true) v82) false) v78)] r77.2)).bind fun r83 =>
    (guardQ (gv (isB v80 true) v82) false (Qbin Tryd.prog Go.BinOp.neq 35 r83.1 (Go.Value.int Go.IntKind.i64 0))).bind fun v84 =>
    (guardQ v80 true (Qpick (gv (isB v80 true) v82) (Go.Value.bool true) v84)).bind fun v85 =>
    (guardQ (gv (isB v80 true) v85) false (Qbin Tryd.prog Go.BinOp.add 22 (gv (isB (gv (isB v80 true) v85) false) v78) (Go.Value.int Go.IntKind.u16 1))).bind fun v86 =>
    (guardX (gv (isB v80 true) v85) false r83.2 (Xcall Tryd.prog (Value.func (Fn.func 18) #[] #[]) #[(gv (isB (gv (isB v80 true) v85) false) s7), v86] r83.2)).bind fun r87 =>
    (guardQ (gv (isB v80 true) v85) false (Qbin Tryd.prog Go.BinOp.neq 35 r87.1 (Go.Value.int Go.IntKind.i64 0))).bind fun v88 =>
    (guardQ v80 true (Qpick (gv (isB v80 true) v85) (Go.Value.bool true) v88)).bind fun v89 =>
    (Qpick v80 v89 (Go.Value.bool false)).bind fun v90 =>
    condK v90 (
      some ((Go.Value.bool false), r87.2)
    ) (
      (Xcall Tryd.prog (Value.func (Fn.func 13) #[] #[]) #[s7, s8, v71] r87.2).bind fun r91 =>
      some (r91.1, r91.2)
    )
  )
noncomputable def s5raw (x0 x1 x2 : Value) (w : World) : Option (Value × World) :=
  (Xcall Tryd.prog (Value.func (Fn.func 11) #[] #[]) #[x0, x1, x2] w).bind fun r57 =>
  (Qext r57.1 0).bind fun v58 =>
  (Qext r57.1 1).bind fun v59 =>
  (Qext r57.1 2).bind fun v60 =>
  (Xcall Tryd.prog (Value.func (Fn.func 12) #[] #[]) #[] r57.2).bind fun r61 =>
  (Qun Go.UnOp.not r61.1).bind fun v62 =>
  (guardQ v62 false (Qun Go.UnOp.not (gv (isB v62 false) v60))).bind fun v63 =>
  (Qpick v62 (Go.Value.bool true) v63).bind fun v64 =>
  condK v64 (
    some ((Go.Value.bool false), r61.2)
  ) (
    (Qlen Tryd.prog #[23] 3 #[x2] r61.2).bind fun v65 =>
    (Qbin Tryd.prog Go.BinOp.gtr 3 v65 (Go.Value.int Go.IntKind.i64 0)).bind fun v66 =>
    condK v66 (
      (QindexAddr Tryd.prog 23 x2 (Go.Value.int Go.IntKind.i64 0) r61.2).bind fun v67 =>
      (QfieldAddr Tryd.prog 29 v67 1).bind fun v68 =>
      (Qload Tryd.prog 22 v68 r61.2).bind fun v69 =>
      s5J0 [x0, x1, x2, undef, undef, undef, (Go.Value.bool false), v58, v59, v60, v69, undef, undef, undef, undef, r57.1, x0, x1, x2, r57.1, v58, v59, v60, r61.1, v62, v62, (gv (isB v62 false) v60), v63, v64, x0, x2, v65, v66, x2, v67, v68, v69, undef, undef, undef, undef, undef, undef, undef, undef, undef, undef, undef, undef, undef, undef, undef, undef, undef, undef, undef, undef, undef, undef, undef, undef, undef, undef, undef, undef, undef, undef, undef, undef, undef, undef, undef, undef, undef, undef, undef, undef, undef, undef, undef, undef] [] r61.2
    ) (
      s5J0 [x0, x1, x2, undef, undef, undef, (Go.Value.bool false), v58, v59, v60, x0, undef, undef, undef, undef, r57.1, x0, x1, x2, r57.1, v58, v59, v60, r61.1, v62, v62, (gv (isB v62 false) v60), v63, v64, x0, x2, v65, v66, undef, undef, undef, undef, undef, undef, undef, undef, undef, undef, undef, undef, undef, undef, undef, undef, undef, undef, undef, undef, undef, undef, undef, undef, undef, undef, undef, undef, undef, undef, undef, undef, undef, undef, undef, undef, undef, undef, undef, undef, undef, undef, undef, undef, undef, undef, undef, undef] [] r61.2
    )
  )
noncomputable def s5 (x0 x1 x2 : Value) (w : World) : Option (Value × World) :=
  (Xcall Tryd.prog (Value.func (Fn.func 11) #[] #[]) #[x0, x1, x2] w).bind fun r57 =>
  (Qext r57.1 0).bind fun v58 =>
  (Qext r57.1 1).bind fun v59 =>
  (Qext r57.1 2).bind fun v60 =>
  (Xcall Tryd.prog (Value.func (Fn.func 12) #[] #[]) #[] r57.2).bind fun r61 =>
  (Qun Go.UnOp.not r61.1).bind fun v62 =>
  (guardQ v62 false (Qun Go.UnOp.not (gv (isB v62 false) v60))).bind fun v63 =>
  (Qpick v62 (Go.Value.bool true) v63).bind fun v64 =>
  condK v64 (
    some ((Go.Value.bool false), r61.2)
  ) (
    (Qlen Tryd.prog #[23] 3 #[x2] r61.2).bind fun v65 =>
    (Qbin Tryd.prog Go.BinOp.gtr 3 v65 (Go.Value.int Go.IntKind.i64 0)).bind fun v66 =>
    condK v66 (
      (QindexAddr Tryd.prog 23 x2 (Go.Value.int Go.IntKind.i64 0) r61.2).bind fun v67 =>
      (QfieldAddr Tryd.prog 29 v67 1).bind fun v68 =>
      (Qload Tryd.prog 22 v68 r61.2).bind fun v69 =>
      s5M0 v58 v59 v69 r61.2
    ) (
      s5M0 v58 v59 x0 r61.2
    )
  )
theorem s5J0eq (s0 s1 s2 s3 s4 s5 s6 s7 s8 s9 s10 s11 s12 s13 s14 s15 s16 s17 s18 s19 s20 s21 s22 s23 s24 s25 s26 s27 s28 s29 s30 s31 s32 s33 s34 s35 s36 s37 s38 s39 s40 s41 s42 s43 s44 s45 s46 s47 s48 s49 s50 s51 s52 s53 s54 s55 s56 s57 s58 s59 s60 s61 s62 s63 s64 s65 s66 s67 s68 s69 s70 s71 s72 s73 s74 s75 s76 s77 s78 s79 s80 : Value) (w : World) : s5J0 [s0, s1, s2, s3, s4, s5, s6, s7, s8, s9, s10, s11, s12, s13, s14, s15, s16, s17, s18, s19, s20, s21, s22, s23, s24, s25, s26, s27, s28, s29, s30, s31, s32, s33, s34, s35, s36, s37, s38, s39, s40, s41, s42, s43, s44, s45, s46, s47, s48, s49, s50, s51, s52, s53, s54, s55, s56, s57, s58, s59, s60, s61, s62, s63, s64, s65, s66, s67, s68, s69, s70, s71, s72, s73, s74, s75, s76, s77, s78, s79, s80] [] w = s5M0 s7 s8 s10 w := (show s5J0 [s0, s1, s2, s3, s4, s5, s6, s7, s8, s9, s10, s11, s12, s13, s14, s15, s16, s17, s18, s19, s20, s21, s22, s23, s24, s25, s26, s27, s28, s29, s30, s31, s32, s33, s34, s35, s36, s37, s38, s39, s40, s41, s42, s43, s44, s45, s46, s47, s48, s49, s50, s51, s52, s53, s54, s55, s56, s57, s58, s59, s60, s61, s62, s63, s64, s65, s66, s67, s68, s69, s70, s71, s72, s73, s74, s75, s76, s77, s78, s79, s80] [] w = evK Tryd.prog 5 none (nav [1, 1, 1, 1, 1] (bodyOf Tryd.f5)) none _ ⟨[s0, s1, s2, s3, s4, s5, s6, s7, s8, s9, s10, s11, s12, s13, s14, s15, s16, s17, s18, s19, s20, s21, s22, s23, s24, s25, s26, s27, s28, s29, s30, s31, s32, s33, s34, s35, s36, s37, s38, s39, s40, s41, s42, s43, s44, s45, s46, s47, s48, s49, s50, s51, s52, s53, s54, s55, s56, s57, s58, s59, s60, s61, s62, s63, s64, s65, s66, s67, s68, s69, s70, s71, s72, s73, s74, s75, s76, s77, s78, s79, s80].toArray, []⟩ w (leaveK Tryd.prog Tryd.f5) from by kernel_rfl).trans (by kernel_rfl)
theorem s5J0of {s0 s1 s2 s3 s4 s5 s6 s7 s8 s9 s10 s11 s12 s13 s14 s15 s16 s17 s18 s19 s20 s21 s22 s23 s24 s25 s26 s27 s28 s29 s30 s31 s32 s33 s34 s35 s36 s37 s38 s39 s40 s41 s42 s43 s44 s45 s46 s47 s48 s49 s50 s51 s52 s53 s54 s55 s56 s57 s58 s59 s60 s61 s62 s63 s64 s65 s66 s67 s68 s69 s70 s71 s72 s73 s74 s75 s76 s77 s78 s79 s80 : Value} {w : World} {r : _} (h : s5M0 s7 s8 s10 w = some r) : s5J0 [s0, s1, s2, s3, s4, s5, s6, s7, s8, s9, s10, s11, s12, s13, s14, s15, s16, s17, s18, s19, s20, s21, s22, s23, s24, s25, s26, s27, s28, s29, s30, s31, s32, s33, s34, s35, s36, s37, s38, s39, s40, s41, s42, s43, s44, s45, s46, s47, s48, s49, s50, s51, s52, s53, s54, s55, s56, s57, s58, s59, s60, s61, s62, s63, s64, s65, s66, s67, s68, s69, s70, s71, s72, s73, s74, s75, s76, s77, s78, s79, s80] [] w = some r :=
  ((s5J0eq s0 s1 s2 s3 s4 s5 s6 s7 s8 s9 s10 s11 s12 s13 s14 s15 s16 s17 s18 s19 s20 s21 s22 s23 s24 s25 s26 s27 s28 s29 s30 s31 s32 s33 s34 s35 s36 s37 s38 s39 s40 s41 s42 s43 s44 s45 s46 s47 s48 s49 s50 s51 s52 s53 s54 s55 s56 s57 s58 s59 s60 s61 s62 s63 s64 s65 s66 s67 s68 s69 s70 s71 s72 s73 s74 s75 s76 s77 s78 s79 s80 w).trans h)
theorem s5eq (x0 x1 x2 : Value) (w : World) : evK Tryd.prog 5 none (bodyOf Tryd.f5) none _ { tmps := (([x0, x1, x2] : List Value) ++ List.replicate (81 - 3) undef).toArray, defers := [] } w (leaveK Tryd.prog Tryd.f5) = s5raw x0 x1 x2 w := by kernel_rfl
theorem c5 {x0 x1 x2 : Value} {w : World} {r : Value × World} (h : s5 x0 x1 x2 w = some r) : C Tryd.prog 5 #[x0, x1, x2] w = some r :=
  C_ev follows_all drawLaw (by kernel_rfl) Tryd.func5 (by rfl) ((s5eq x0 x1 x2 w).trans (show s5raw x0 x1 x2 w = some r from (Ev.bind_mono fun (r57 : Value × World) => (Ev.bind_mono fun (v58 : Value) => (Ev.bind_mono fun (v59 : Value) => (Ev.bind_mono fun (v60 : Value) => (Ev.bind_mono fun (r61 : Value × World) => (Ev.bind_mono fun (v62 : Value) => (Ev.bind_mono fun (v63 : Value) => (Ev.bind_mono fun (v64 : Value) => (condK_mono id (Ev.bind_mono fun (v65 : Value) => (Ev.bind_mono fun (v66 : Value) => (condK_mono (Ev.bind_mono fun (v67 : Value) => (Ev.bind_mono fun (v68 : Value) => (Ev.bind_mono fun (v69 : Value) => (s5J0of)))) (s5J0of))))))))))))) h))
theorem e5 {x0 x1 x2 : Value} {w : World} {Q : Value × World → Prop} (h : Brings (s5 x0 x1 x2 w) Q) : Brings (Xcall Tryd.prog (Value.func (Fn.func 5) #[] #[]) #[x0, x1, x2] w) Q :=
  h.call (Xcall_fn Tryd.func5 (by decide +kernel) (by rfl) _ _ _ w) fun _ h => c5 h

/-! lychgate/lychgatelaw08.PoolWish -/
noncomputable def s6K0 : Exit → Act → World → Option (Value × World) := seqK (fun a w => evK Tryd.prog 6 none (nav [1, 1, 1, 1, 1] (bodyOf Tryd.f6)) none _ a w (leaveK Tryd.prog Tryd.f6)) (leaveK Tryd.prog Tryd.f6)
noncomputable def s6J0 (s : List Value) (d : List Deferred) (w : World) : Option (Value × World) := s6K0 .normal ⟨s.toArray, d⟩ w
noncomputable def s6M0 (s7 s10 : Value) (w : World) : Option (Value × World) :=
  (Xcall Tryd.prog (Value.func (Fn.func 20) #[] #[]) #[s7] w).bind fun r105 =>
  (Xcall Tryd.prog (Value.func (Fn.func 15) #[] #[]) #[r105.1, (Go.Value.int Go.IntKind.u16 0)] r105.2).bind fun r106 =>
  (Qext r106.1 0).bind fun v107 =>
  (Qext r106.1 1).bind fun v108 =>
  (Qbin Tryd.prog Go.BinOp.neq 35 v108 (Go.Value.int Go.IntKind.i64 0)).bind fun v109 =>
  condK v109 (
    (Xcall Tryd.prog (Value.func (Fn.func 15) #[] #[]) #[s7, s10] r106.2).bind fun r110 =>
    (Qext r110.1 0).bind fun _ =>
    (Qext r110.1 1).bind fun v112 =>
    (Qbin Tryd.prog Go.BinOp.eql 35 v108 (Go.Value.int Go.IntKind.i64 9)).bind fun v113 =>
    (guardQ v113 true (Qbin Tryd.prog Go.BinOp.eql 35 (gv (isB v113 true) v112) (Go.Value.int Go.IntKind.i64 9))).bind fun v114 =>
    (Qpick v113 v114 (Go.Value.bool false)).bind fun v115 =>
    (guardX v115 true r110.2 (Xcall Tryd.prog (Value.func (Fn.func 14) #[] #[]) #[(gv (isB v115 true) s7)] r110.2)).bind fun r116 =>
    (guardQ v115 true (Qbin Tryd.prog Go.BinOp.eql 3 r116.1 (Go.Value.int Go.IntKind.i64 0))).bind fun v117 =>
    (Qpick v115 v117 (Go.Value.bool false)).bind fun v118 =>
    some (v118, r116.2)
  ) (
    (Xcall Tryd.prog (Value.func (Fn.func 16) #[] #[]) #[s7, s10] r106.2).bind fun r119 =>
    (Xcall Tryd.prog (Value.func (Fn.func 15) #[] #[]) #[s7, s10] r119.2).bind fun r120 =>
    (Qext r120.1 0).bind fun v121 =>
    (Qext r120.1 1).bind fun v122 =>
    (Qbin Tryd.prog Go.BinOp.eql 35 v122 (Go.Value.int Go.IntKind.i64 0)).bind fun v123 =>
    (guardQ v123 true (Qbin Tryd.prog Go.BinOp.eql 22 (gv (isB v123 true) v121) (gv (isB v123 true) s10))).bind fun v124 =>
    (guardQ (gv (isB v123 true) v124) true (Qun Go.UnOp.not (gv (isB (gv (isB v123 true) v124) true) r119.1))).bind fun v125 =>
    (guardQ v123 true (Qpick (gv (isB v123 true) v124) v125 (Go.Value.bool false))).bind fun v126 =>
    (guardQ (gv (isB v123 true) v126) false (Qbin Tryd.prog Go.BinOp.eql 22 (gv (isB (gv (isB v123 true) v126) false) v121) (gv (isB (gv (isB v123 true) v126) false) v107))).bind fun v127 =>
    (guardQ v123 true (Qpick (gv (isB v123 true) v126) (Go.Value.bool true) v127)).bind fun v128 =>
    (Qpick v123 v128 (Go.Value.bool false)).bind fun v129 =>
    (guardQ v129 true (Qbin Tryd.prog Go.BinOp.geq 22 (gv (isB v129 true) v121) (gv (isB v129 true) v107))).bind fun v130 =>
    (Qpick v129 v130 (Go.Value.bool false)).bind fun v131 =>
    some (v131, r120.2)
  )
noncomputable def s6raw (x0 x1 x2 : Value) (w : World) : Option (Value × World) :=
  (Xcall Tryd.prog (Value.func (Fn.func 11) #[] #[]) #[x0, x1, x2] w).bind fun r92 =>
  (Qext r92.1 0).bind fun v93 =>
  (Qext r92.1 1).bind fun v94 =>
  (Qext r92.1 2).bind fun v95 =>
  (Xcall Tryd.prog (Value.func (Fn.func 12) #[] #[]) #[] r92.2).bind fun r96 =>
  (Qun Go.UnOp.not r96.1).bind fun v97 =>
  (guardQ v97 false (Qun Go.UnOp.not (gv (isB v97 false) v95))).bind fun v98 =>
  (Qpick v97 (Go.Value.bool true) v98).bind fun v99 =>
  condK v99 (
    some ((Go.Value.bool false), r96.2)
  ) (
    (Qlen Tryd.prog #[23] 3 #[x2] r96.2).bind fun v100 =>
    (Qbin Tryd.prog Go.BinOp.gtr 3 v100 (Go.Value.int Go.IntKind.i64 0)).bind fun v101 =>
    condK v101 (
      (QindexAddr Tryd.prog 23 x2 (Go.Value.int Go.IntKind.i64 0) r96.2).bind fun v102 =>
      (QfieldAddr Tryd.prog 29 v102 1).bind fun v103 =>
      (Qload Tryd.prog 22 v103 r96.2).bind fun v104 =>
      s6J0 [x0, x1, x2, undef, undef, undef, (Go.Value.bool false), v93, v94, v95, v104, undef, undef, undef, undef, undef, undef, undef, undef, r92.1, x0, x1, x2, r92.1, v93, v94, v95, r96.1, v97, v97, (gv (isB v97 false) v95), v98, v99, x0, x2, v100, v101, x2, v102, v103, v104, undef, undef, undef, undef, undef, undef, undef, undef, undef, undef, undef, undef, undef, undef, undef, undef, undef, undef, undef, undef, undef, undef, undef, undef, undef, undef, undef, undef, undef, undef, undef, undef, undef, undef, undef, undef, undef, undef, undef, undef, undef, undef, undef, undef, undef, undef, undef, undef, undef, undef, undef, undef, undef, undef, undef, undef] [] r96.2
    ) (
      s6J0 [x0, x1, x2, undef, undef, undef, (Go.Value.bool false), v93, v94, v95, x0, undef, undef, undef, undef, undef, undef, undef, undef, r92.1, x0, x1, x2, r92.1, v93, v94, v95, r96.1, v97, v97, (gv (isB v97 false) v95), v98, v99, x0, x2, v100, v101, undef, undef, undef, undef, undef, undef, undef, undef, undef, undef, undef, undef, undef, undef, undef, undef, undef, undef, undef, undef, undef, undef, undef, undef, undef, undef, undef, undef, undef, undef, undef, undef, undef, undef, undef, undef, undef, undef, undef, undef, undef, undef, undef, undef, undef, undef, undef, undef, undef, undef, undef, undef, undef, undef, undef, undef, undef, undef, undef, undef] [] r96.2
    )
  )
noncomputable def s6 (x0 x1 x2 : Value) (w : World) : Option (Value × World) :=
  (Xcall Tryd.prog (Value.func (Fn.func 11) #[] #[]) #[x0, x1, x2] w).bind fun r92 =>
  (Qext r92.1 0).bind fun v93 =>
  (Qext r92.1 1).bind fun _ =>
  (Qext r92.1 2).bind fun v95 =>
  (Xcall Tryd.prog (Value.func (Fn.func 12) #[] #[]) #[] r92.2).bind fun r96 =>
  (Qun Go.UnOp.not r96.1).bind fun v97 =>
  (guardQ v97 false (Qun Go.UnOp.not (gv (isB v97 false) v95))).bind fun v98 =>
  (Qpick v97 (Go.Value.bool true) v98).bind fun v99 =>
  condK v99 (
    some ((Go.Value.bool false), r96.2)
  ) (
    (Qlen Tryd.prog #[23] 3 #[x2] r96.2).bind fun v100 =>
    (Qbin Tryd.prog Go.BinOp.gtr 3 v100 (Go.Value.int Go.IntKind.i64 0)).bind fun v101 =>
    condK v101 (
      (QindexAddr Tryd.prog 23 x2 (Go.Value.int Go.IntKind.i64 0) r96.2).bind fun v102 =>
      (QfieldAddr Tryd.prog 29 v102 1).bind fun v103 =>
      (Qload Tryd.prog 22 v103 r96.2).bind fun v104 =>
      s6M0 v93 v104 r96.2
    ) (
      s6M0 v93 x0 r96.2
    )
  )
theorem s6J0eq (s0 s1 s2 s3 s4 s5 s6 s7 s8 s9 s10 s11 s12 s13 s14 s15 s16 s17 s18 s19 s20 s21 s22 s23 s24 s25 s26 s27 s28 s29 s30 s31 s32 s33 s34 s35 s36 s37 s38 s39 s40 s41 s42 s43 s44 s45 s46 s47 s48 s49 s50 s51 s52 s53 s54 s55 s56 s57 s58 s59 s60 s61 s62 s63 s64 s65 s66 s67 s68 s69 s70 s71 s72 s73 s74 s75 s76 s77 s78 s79 s80 s81 s82 s83 s84 s85 s86 s87 s88 s89 s90 s91 s92 s93 s94 s95 s96 : Value) (w : World) : s6J0 [s0, s1, s2, s3, s4, s5, s6, s7, s8, s9, s10, s11, s12, s13, s14, s15, s16, s17, s18, s19, s20, s21, s22, s23, s24, s25, s26, s27, s28, s29, s30, s31, s32, s33, s34, s35, s36, s37, s38, s39, s40, s41, s42, s43, s44, s45, s46, s47, s48, s49, s50, s51, s52, s53, s54, s55, s56, s57, s58, s59, s60, s61, s62, s63, s64, s65, s66, s67, s68, s69, s70, s71, s72, s73, s74, s75, s76, s77, s78, s79, s80, s81, s82, s83, s84, s85, s86, s87, s88, s89, s90, s91, s92, s93, s94, s95, s96] [] w = s6M0 s7 s10 w := (show s6J0 [s0, s1, s2, s3, s4, s5, s6, s7, s8, s9, s10, s11, s12, s13, s14, s15, s16, s17, s18, s19, s20, s21, s22, s23, s24, s25, s26, s27, s28, s29, s30, s31, s32, s33, s34, s35, s36, s37, s38, s39, s40, s41, s42, s43, s44, s45, s46, s47, s48, s49, s50, s51, s52, s53, s54, s55, s56, s57, s58, s59, s60, s61, s62, s63, s64, s65, s66, s67, s68, s69, s70, s71, s72, s73, s74, s75, s76, s77, s78, s79, s80, s81, s82, s83, s84, s85, s86, s87, s88, s89, s90, s91, s92, s93, s94, s95, s96] [] w = evK Tryd.prog 6 none (nav [1, 1, 1, 1, 1] (bodyOf Tryd.f6)) none _ ⟨[s0, s1, s2, s3, s4, s5, s6, s7, s8, s9, s10, s11, s12, s13, s14, s15, s16, s17, s18, s19, s20, s21, s22, s23, s24, s25, s26, s27, s28, s29, s30, s31, s32, s33, s34, s35, s36, s37, s38, s39, s40, s41, s42, s43, s44, s45, s46, s47, s48, s49, s50, s51, s52, s53, s54, s55, s56, s57, s58, s59, s60, s61, s62, s63, s64, s65, s66, s67, s68, s69, s70, s71, s72, s73, s74, s75, s76, s77, s78, s79, s80, s81, s82, s83, s84, s85, s86, s87, s88, s89, s90, s91, s92, s93, s94, s95, s96].toArray, []⟩ w (leaveK Tryd.prog Tryd.f6) from by kernel_rfl).trans (by kernel_rfl)
theorem s6J0of {s0 s1 s2 s3 s4 s5 s6 s7 s8 s9 s10 s11 s12 s13 s14 s15 s16 s17 s18 s19 s20 s21 s22 s23 s24 s25 s26 s27 s28 s29 s30 s31 s32 s33 s34 s35 s36 s37 s38 s39 s40 s41 s42 s43 s44 s45 s46 s47 s48 s49 s50 s51 s52 s53 s54 s55 s56 s57 s58 s59 s60 s61 s62 s63 s64 s65 s66 s67 s68 s69 s70 s71 s72 s73 s74 s75 s76 s77 s78 s79 s80 s81 s82 s83 s84 s85 s86 s87 s88 s89 s90 s91 s92 s93 s94 s95 s96 : Value} {w : World} {r : _} (h : s6M0 s7 s10 w = some r) : s6J0 [s0, s1, s2, s3, s4, s5, s6, s7, s8, s9, s10, s11, s12, s13, s14, s15, s16, s17, s18, s19, s20, s21, s22, s23, s24, s25, s26, s27, s28, s29, s30, s31, s32, s33, s34, s35, s36, s37, s38, s39, s40, s41, s42, s43, s44, s45, s46, s47, s48, s49, s50, s51, s52, s53, s54, s55, s56, s57, s58, s59, s60, s61, s62, s63, s64, s65, s66, s67, s68, s69, s70, s71, s72, s73, s74, s75, s76, s77, s78, s79, s80, s81, s82, s83, s84, s85, s86, s87, s88, s89, s90, s91, s92, s93, s94, s95, s96] [] w = some r :=
  ((s6J0eq s0 s1 s2 s3 s4 s5 s6 s7 s8 s9 s10 s11 s12 s13 s14 s15 s16 s17 s18 s19 s20 s21 s22 s23 s24 s25 s26 s27 s28 s29 s30 s31 s32 s33 s34 s35 s36 s37 s38 s39 s40 s41 s42 s43 s44 s45 s46 s47 s48 s49 s50 s51 s52 s53 s54 s55 s56 s57 s58 s59 s60 s61 s62 s63 s64 s65 s66 s67 s68 s69 s70 s71 s72 s73 s74 s75 s76 s77 s78 s79 s80 s81 s82 s83 s84 s85 s86 s87 s88 s89 s90 s91 s92 s93 s94 s95 s96 w).trans h)
theorem s6eq (x0 x1 x2 : Value) (w : World) : evK Tryd.prog 6 none (bodyOf Tryd.f6) none _ { tmps := (([x0, x1, x2] : List Value) ++ List.replicate (97 - 3) undef).toArray, defers := [] } w (leaveK Tryd.prog Tryd.f6) = s6raw x0 x1 x2 w := by kernel_rfl
theorem c6 {x0 x1 x2 : Value} {w : World} {r : Value × World} (h : s6 x0 x1 x2 w = some r) : C Tryd.prog 6 #[x0, x1, x2] w = some r :=
  C_ev follows_all drawLaw (by kernel_rfl) Tryd.func6 (by rfl) ((s6eq x0 x1 x2 w).trans (show s6raw x0 x1 x2 w = some r from (Ev.bind_mono fun (r92 : Value × World) => (Ev.bind_mono fun (v93 : Value) => (Ev.bind_mono fun (v94 : Value) => (Ev.bind_mono fun (v95 : Value) => (Ev.bind_mono fun (r96 : Value × World) => (Ev.bind_mono fun (v97 : Value) => (Ev.bind_mono fun (v98 : Value) => (Ev.bind_mono fun (v99 : Value) => (condK_mono id (Ev.bind_mono fun (v100 : Value) => (Ev.bind_mono fun (v101 : Value) => (condK_mono (Ev.bind_mono fun (v102 : Value) => (Ev.bind_mono fun (v103 : Value) => (Ev.bind_mono fun (v104 : Value) => (s6J0of)))) (s6J0of))))))))))))) h))
theorem e6 {x0 x1 x2 : Value} {w : World} {Q : Value × World → Prop} (h : Brings (s6 x0 x1 x2 w) Q) : Brings (Xcall Tryd.prog (Value.func (Fn.func 6) #[] #[]) #[x0, x1, x2] w) Q :=
  h.call (Xcall_fn Tryd.func6 (by decide +kernel) (by rfl) _ _ _ w) fun _ h => c6 h

/-! lychgate/lychgatelaw08.PoolForks -/
noncomputable def s7K0 : Exit → Act → World → Option (Value × World) := seqK (fun a w => evK Tryd.prog 7 none (nav [1, 1, 1, 1, 1] (bodyOf Tryd.f7)) none _ a w (leaveK Tryd.prog Tryd.f7)) (leaveK Tryd.prog Tryd.f7)
noncomputable def s7K1 : Exit → Act → World → Option (Value × World) := blockK 0 s7K0
noncomputable def s7L0 (s : List Value) (d : List Deferred) (w : World) : Option (Value × World) := loopN Tryd.prog 7 none (nav [1, 1, 1, 1, 0, 1, 0, 0] (bodyOf Tryd.f7)) s7K1 s d w
noncomputable def s7B0 : List Value → World → Option (Exit × List Value × World)
  | [x2, x6, x7, x8, x10, x11, x12], w =>
    (Qlen Tryd.prog #[23] 3 #[x2] w).bind fun v142 =>
    (Qbin Tryd.prog Go.BinOp.lss 3 x12 v142).bind fun v143 =>
    (guardQ v143 true (Qbin Tryd.prog Go.BinOp.lss 3 (gv (isB v143 true) x12) (Go.Value.int Go.IntKind.i64 40))).bind fun v144 =>
    (Qpick v143 v144 (Go.Value.bool false)).bind fun v145 =>
    condK v145 (
      (QindexAddr Tryd.prog 23 x2 x12 w).bind fun v146 =>
      (Qload Tryd.prog 29 v146 w).bind fun v147 =>
      (Xcall Tryd.prog (Value.func (Fn.func 22) #[] #[]) #[x10, x11, v147] w).bind fun r148 =>
      (Qun Go.UnOp.not r148.1).bind fun v149 =>
      condK v149 (
        some (Exit.ret, [x2, (Go.Value.bool false), x7, x8, x10, x11, x12], r148.2)
      ) (
        (Qbin Tryd.prog Go.BinOp.add 3 x12 (Go.Value.int Go.IntKind.i64 1)).bind fun v150 =>
        some (Exit.normal, [x2, x6, x7, x8, x10, x11, v150], r148.2)
      )
    ) (
      some ((Exit.exit 0), [x2, x6, x7, x8, x10, x11, x12], w)
    )
  | _, _ => none
noncomputable def s7R0 : Exit → List Value → World → Option (Value × World)
  | (Exit.exit 0), [_, _, x7, x8, x10, x11, _], w =>
    (Xcall Tryd.prog (Value.func (Fn.func 13) #[] #[]) #[x7, x8, (Go.Value.int Go.IntKind.u16 31)] w).bind fun r151 =>
    (guardX r151.1 true r151.2 (Xcall Tryd.prog (Value.func (Fn.func 13) #[] #[]) #[(gv (isB r151.1 true) x10), (gv (isB r151.1 true) x11), (Go.Value.int Go.IntKind.u16 31)] r151.2)).bind fun r152 =>
    (Qpick r151.1 r152.1 (Go.Value.bool false)).bind fun v153 =>
    some (v153, r152.2)
  | Exit.ret, [_, x6, _, _, _, _, _], w =>
    some (x6, w)
  | _, _, _ => none
noncomputable def s7raw (x0 x1 x2 : Value) (w : World) : Option (Value × World) :=
  (Xcall Tryd.prog (Value.func (Fn.func 11) #[] #[]) #[(Go.Value.int Go.IntKind.u16 30), x0, x1] w).bind fun r132 =>
  (Qext r132.1 0).bind fun v133 =>
  (Qext r132.1 1).bind fun v134 =>
  (Qext r132.1 2).bind fun v135 =>
  (Xcall Tryd.prog (Value.func (Fn.func 12) #[] #[]) #[] r132.2).bind fun r136 =>
  (Qun Go.UnOp.not r136.1).bind fun v137 =>
  (guardQ v137 false (Qun Go.UnOp.not (gv (isB v137 false) v135))).bind fun v138 =>
  (Qpick v137 (Go.Value.bool true) v138).bind fun v139 =>
  condK v139 (
    some ((Go.Value.bool false), r136.2)
  ) (
    (Xcall Tryd.prog (Value.func (Fn.func 20) #[] #[]) #[v133] r136.2).bind fun r140 =>
    (Xcall Tryd.prog (Value.func (Fn.func 21) #[] #[]) #[v134] r140.2).bind fun r141 =>
    s7L0 [x0, x1, x2, undef, undef, undef, (Go.Value.bool false), v133, v134, v135, r140.1, r141.1, (Go.Value.int Go.IntKind.i64 0), r132.1, x0, x1, r132.1, v133, v134, v135, r136.1, v137, v137, (gv (isB v137 false) v135), v138, v139, v133, r140.1, v134, r141.1, undef, undef, undef, undef, undef, undef, undef, undef, undef, undef, undef, undef, undef, undef, undef, undef, undef, undef, undef, undef, undef, undef, undef, undef, undef, undef] [] r141.2
  )
noncomputable def s7 (x0 x1 x2 : Value) (w : World) : Option (Value × World) :=
  (Xcall Tryd.prog (Value.func (Fn.func 11) #[] #[]) #[(Go.Value.int Go.IntKind.u16 30), x0, x1] w).bind fun r132 =>
  (Qext r132.1 0).bind fun v133 =>
  (Qext r132.1 1).bind fun v134 =>
  (Qext r132.1 2).bind fun v135 =>
  (Xcall Tryd.prog (Value.func (Fn.func 12) #[] #[]) #[] r132.2).bind fun r136 =>
  (Qun Go.UnOp.not r136.1).bind fun v137 =>
  (guardQ v137 false (Qun Go.UnOp.not (gv (isB v137 false) v135))).bind fun v138 =>
  (Qpick v137 (Go.Value.bool true) v138).bind fun v139 =>
  condK v139 (
    some ((Go.Value.bool false), r136.2)
  ) (
    (Xcall Tryd.prog (Value.func (Fn.func 20) #[] #[]) #[v133] r136.2).bind fun r140 =>
    (Xcall Tryd.prog (Value.func (Fn.func 21) #[] #[]) #[v134] r140.2).bind fun r141 =>
    loopR s7B0 s7R0 [x2, (Go.Value.bool false), v133, v134, r140.1, r141.1, (Go.Value.int Go.IntKind.i64 0)] r141.2
  )
theorem s7B0eq (x2 x6 x7 x8 x10 x11 x12 : Value) (w : World) (g : Nat → Value) (d : List Deferred) : evK Tryd.prog 7 none (nav [1, 1, 1, 1, 0, 1, 0, 0] (bodyOf Tryd.f7)) none _ (frm 56 (setL [2, 6, 7, 8, 10, 11, 12] [x2, x6, x7, x8, x10, x11, x12] g) d) w (projK [2, 6, 7, 8, 10, 11, 12]) = s7B0 [x2, x6, x7, x8, x10, x11, x12] w := by kernel_rfl
theorem s7R0x0eq (x2 x6 x7 x8 x10 x11 x12 : Value) (g : Nat → Value) (w : World) : s7K1 (Exit.exit 0) (frm 56 (setL [2, 6, 7, 8, 10, 11, 12] [x2, x6, x7, x8, x10, x11, x12] g) []) w = s7R0 (Exit.exit 0) [x2, x6, x7, x8, x10, x11, x12] w := by kernel_rfl
theorem s7R0ret_eq (x2 x6 x7 x8 x10 x11 x12 : Value) (g : Nat → Value) (w : World) : s7K1 Exit.ret (frm 56 (setL [2, 6, 7, 8, 10, 11, 12] [x2, x6, x7, x8, x10, x11, x12] g) []) w = s7R0 Exit.ret [x2, x6, x7, x8, x10, x11, x12] w := by kernel_rfl
theorem s7R0of : ∀ (e : Exit) (xs : List Value) (w : World) (g : Nat → Value) (y : _), s7R0 e xs w = some y → s7K1 e (frm 56 (setL [2, 6, 7, 8, 10, 11, 12] xs g) []) w = some y := by
  intro e xs w g y h
  unfold s7R0 at h
  split at h
  · exact (s7R0x0eq _ _ _ _ _ _ _ g _).trans h
  · exact (s7R0ret_eq _ _ _ _ _ _ _ g _).trans h
  · cases h
theorem s7L0of {s0 s1 s2 s3 s4 s5 s6 s7 s8 s9 s10 s11 s12 s13 s14 s15 s16 s17 s18 s19 s20 s21 s22 s23 s24 s25 s26 s27 s28 s29 s30 s31 s32 s33 s34 s35 s36 s37 s38 s39 s40 s41 s42 s43 s44 s45 s46 s47 s48 s49 s50 s51 s52 s53 s54 s55 : Value} {w : World} {r : _} (h : loopR s7B0 s7R0 [s2, s6, s7, s8, s10, s11, s12] w = some r) : s7L0 [s0, s1, s2, s3, s4, s5, s6, s7, s8, s9, s10, s11, s12, s13, s14, s15, s16, s17, s18, s19, s20, s21, s22, s23, s24, s25, s26, s27, s28, s29, s30, s31, s32, s33, s34, s35, s36, s37, s38, s39, s40, s41, s42, s43, s44, s45, s46, s47, s48, s49, s50, s51, s52, s53, s54, s55] [] w = some r :=
  loopN_of (B := s7B0) (R := s7R0) (n := 56) (live := [2, 6, 7, 8, 10, 11, 12]) (fun xs w g y hl h => match xs, hl, h with | [x2, x6, x7, x8, x10, x11, x12], _, h => (s7B0eq x2 x6 x7 x8 x10 x11 x12 w g []).trans h) (by kernel_rfl) (s7R0of) (fun i => ([s0, s1, s2, s3, s4, s5, s6, s7, s8, s9, s10, s11, s12, s13, s14, s15, s16, s17, s18, s19, s20, s21, s22, s23, s24, s25, s26, s27, s28, s29, s30, s31, s32, s33, s34, s35, s36, s37, s38, s39, s40, s41, s42, s43, s44, s45, s46, s47, s48, s49, s50, s51, s52, s53, s54, s55] : List Value).getD i undef) (by kernel_rfl) rfl h
theorem s7eq (x0 x1 x2 : Value) (w : World) : evK Tryd.prog 7 none (bodyOf Tryd.f7) none _ { tmps := (([x0, x1, x2] : List Value) ++ List.replicate (56 - 3) undef).toArray, defers := [] } w (leaveK Tryd.prog Tryd.f7) = s7raw x0 x1 x2 w := by kernel_rfl
theorem c7 {x0 x1 x2 : Value} {w : World} {r : Value × World} (h : s7 x0 x1 x2 w = some r) : C Tryd.prog 7 #[x0, x1, x2] w = some r :=
  C_ev follows_all drawLaw (by kernel_rfl) Tryd.func7 (by rfl) ((s7eq x0 x1 x2 w).trans (show s7raw x0 x1 x2 w = some r from (Ev.bind_mono fun (r132 : Value × World) => (Ev.bind_mono fun (v133 : Value) => (Ev.bind_mono fun (v134 : Value) => (Ev.bind_mono fun (v135 : Value) => (Ev.bind_mono fun (r136 : Value × World) => (Ev.bind_mono fun (v137 : Value) => (Ev.bind_mono fun (v138 : Value) => (Ev.bind_mono fun (v139 : Value) => (condK_mono id (Ev.bind_mono fun (r140 : Value × World) => (Ev.bind_mono fun (r141 : Value × World) => (s7L0of)))))))))))) h))
theorem e7 {x0 x1 x2 : Value} {w : World} {Q : Value × World → Prop} (h : Brings (s7 x0 x1 x2 w) Q) : Brings (Xcall Tryd.prog (Value.func (Fn.func 7) #[] #[]) #[x0, x1, x2] w) Q :=
  h.call (Xcall_fn Tryd.func7 (by decide +kernel) (by rfl) _ _ _ w) fun _ h => c7 h

/-! lychgate/lychgatelaw08.PoolNone -/
noncomputable def s8 (x0 x1 : Value) (w : World) : Option (Value × World) :=
  (Xcall Tryd.prog (Value.func (Fn.func 15) #[] #[]) #[(Go.Value.pointer none), x0] w).bind fun r154 =>
  (Qext r154.1 0).bind fun v155 =>
  (Qext r154.1 1).bind fun v156 =>
  (Xcall Tryd.prog (Value.func (Fn.func 19) #[] #[]) #[(Go.Value.pointer none), x0] r154.2).bind fun r157 =>
  (Qext r157.1 0).bind fun v158 =>
  (Qext r157.1 1).bind fun v159 =>
  (Xcall Tryd.prog (Value.func (Fn.func 12) #[] #[]) #[] r157.2).bind fun r160 =>
  (guardQ r160.1 true (Qbin Tryd.prog Go.BinOp.eql 35 (gv (isB r160.1 true) v156) (Go.Value.int Go.IntKind.i64 1))).bind fun v161 =>
  (Qpick r160.1 v161 (Go.Value.bool false)).bind fun v162 =>
  (guardQ v162 true (Qbin Tryd.prog Go.BinOp.eql 35 (gv (isB v162 true) v159) (Go.Value.int Go.IntKind.i64 1))).bind fun v163 =>
  (Qpick v162 v163 (Go.Value.bool false)).bind fun v164 =>
  (guardQ v164 true (Qbin Tryd.prog Go.BinOp.eql 22 (gv (isB v164 true) v155) (Go.Value.int Go.IntKind.u16 0))).bind fun v165 =>
  (Qpick v164 v165 (Go.Value.bool false)).bind fun v166 =>
  (guardQ v166 true (Qbin Tryd.prog Go.BinOp.eql 22 (gv (isB v166 true) v158) (Go.Value.int Go.IntKind.u16 0))).bind fun v167 =>
  (Qpick v166 v167 (Go.Value.bool false)).bind fun v168 =>
  (guardX v168 true r160.2 (Xcall Tryd.prog (Value.func (Fn.func 18) #[] #[]) #[(gv (isB v168 true) (Go.Value.pointer none)), (gv (isB v168 true) x0)] r160.2)).bind fun r169 =>
  (guardQ v168 true (Qbin Tryd.prog Go.BinOp.eql 35 r169.1 (Go.Value.int Go.IntKind.i64 1))).bind fun v170 =>
  (Qpick v168 v170 (Go.Value.bool false)).bind fun v171 =>
  (guardX v171 true r169.2 (Xcall Tryd.prog (Value.func (Fn.func 16) #[] #[]) #[(gv (isB v171 true) (Go.Value.pointer none)), (gv (isB v171 true) x0)] r169.2)).bind fun r172 =>
  (guardQ v171 true (Qun Go.UnOp.not r172.1)).bind fun v173 =>
  (Qpick v171 v173 (Go.Value.bool false)).bind fun v174 =>
  (guardX v174 true r172.2 (Xcall Tryd.prog (Value.func (Fn.func 17) #[] #[]) #[(gv (isB v174 true) (Go.Value.pointer none))] r172.2)).bind fun r175 =>
  (guardQ v174 true (Qlen Tryd.prog #[33] 3 #[r175.1] r175.2)).bind fun v176 =>
  (guardQ v174 true (Qbin Tryd.prog Go.BinOp.eql 3 v176 (Go.Value.int Go.IntKind.i64 0))).bind fun v177 =>
  (Qpick v174 v177 (Go.Value.bool false)).bind fun v178 =>
  (guardX v178 true r175.2 (Xcall Tryd.prog (Value.func (Fn.func 14) #[] #[]) #[(gv (isB v178 true) (Go.Value.pointer none))] r175.2)).bind fun r179 =>
  (guardQ v178 true (Qbin Tryd.prog Go.BinOp.eql 3 r179.1 (Go.Value.int Go.IntKind.i64 0))).bind fun v180 =>
  (Qpick v178 v180 (Go.Value.bool false)).bind fun v181 =>
  (guardX v181 true r179.2 (Xcall Tryd.prog (Value.func (Fn.func 20) #[] #[]) #[(gv (isB v181 true) (Go.Value.pointer none))] r179.2)).bind fun r182 =>
  (guardQ v181 true (Qbin Tryd.prog Go.BinOp.eql 24 r182.1 (Go.Value.pointer none))).bind fun v183 =>
  (Qpick v181 v183 (Go.Value.bool false)).bind fun v184 =>
  (guardX v184 true r182.2 (Xcall Tryd.prog (Value.func (Fn.func 23) #[] #[]) #[(gv (isB v184 true) x0), (gv (isB v184 true) x1)] r182.2)).bind fun r185 =>
  (guardQ v184 true (Qbin Tryd.prog Go.BinOp.eql 24 r185.1 (Go.Value.pointer none))).bind fun v186 =>
  (guardQ v184 true (Qbin Tryd.prog Go.BinOp.eql 22 (gv (isB v184 true) x0) (Go.Value.int Go.IntKind.u16 0))).bind fun v187 =>
  (guardQ (gv (isB v184 true) v187) false (Qbin Tryd.prog Go.BinOp.gtr 22 (gv (isB (gv (isB v184 true) v187) false) x0) (gv (isB (gv (isB v184 true) v187) false) x1))).bind fun v188 =>
  (guardQ v184 true (Qpick (gv (isB v184 true) v187) (Go.Value.bool true) v188)).bind fun v189 =>
  (guardQ v184 true (Qbin Tryd.prog Go.BinOp.eql 4 v186 v189)).bind fun v190 =>
  (Qpick v184 v190 (Go.Value.bool false)).bind fun v191 =>
  some (v191, r185.2)
theorem s8eq (x0 x1 : Value) (w : World) : evK Tryd.prog 8 none (bodyOf Tryd.f8) none _ { tmps := (([x0, x1] : List Value) ++ List.replicate (81 - 2) undef).toArray, defers := [] } w (leaveK Tryd.prog Tryd.f8) = s8 x0 x1 w := by kernel_rfl
theorem c8 {x0 x1 : Value} {w : World} {r : Value × World} (h : s8 x0 x1 w = some r) : C Tryd.prog 8 #[x0, x1] w = some r :=
  C_ev follows_all drawLaw (by kernel_rfl) Tryd.func8 (by rfl) ((s8eq x0 x1 w).trans h)
theorem e8 {x0 x1 : Value} {w : World} {Q : Value × World → Prop} (h : Brings (s8 x0 x1 w) Q) : Brings (Xcall Tryd.prog (Value.func (Fn.func 8) #[] #[]) #[x0, x1] w) Q :=
  h.call (Xcall_fn Tryd.func8 (by decide +kernel) (by rfl) _ _ _ w) fun _ h => c8 h

/-! lychgate/lychgatelaw08.PoolPairs -/
noncomputable def s9K0 : Exit → Act → World → Option (Value × World) := seqK (fun a w => evK Tryd.prog 9 none (nav [1, 1, 1, 1, 1] (bodyOf Tryd.f9)) none _ a w (leaveK Tryd.prog Tryd.f9)) (leaveK Tryd.prog Tryd.f9)
noncomputable def s9J0 (s : List Value) (d : List Deferred) (w : World) : Option (Value × World) := s9K0 .normal ⟨s.toArray, d⟩ w
noncomputable def s9M0 (s7 s10 : Value) (w : World) : Option (Value × World) :=
  (Xcall Tryd.prog (Value.func (Fn.func 20) #[] #[]) #[s7] w).bind fun r205 =>
  (Xcall Tryd.prog (Value.func (Fn.func 19) #[] #[]) #[s7, s10] r205.2).bind fun r206 =>
  (Qext r206.1 0).bind fun v207 =>
  (Qext r206.1 1).bind fun v208 =>
  (Qbin Tryd.prog Go.BinOp.neq 35 v208 (Go.Value.int Go.IntKind.i64 0)).bind fun v209 =>
  condK v209 (
    (Qbin Tryd.prog Go.BinOp.eql 35 v208 (Go.Value.int Go.IntKind.i64 9)).bind fun v210 =>
    (guardQ v210 true (Qbin Tryd.prog Go.BinOp.eql 22 (gv (isB v210 true) v207) (Go.Value.int Go.IntKind.u16 0))).bind fun v211 =>
    (Qpick v210 v211 (Go.Value.bool false)).bind fun v212 =>
    (guardX v212 true r206.2 (Xcall Tryd.prog (Value.func (Fn.func 14) #[] #[]) #[(gv (isB v212 true) s7)] r206.2)).bind fun r213 =>
    (guardX v212 true r213.2 (Xcall Tryd.prog (Value.func (Fn.func 14) #[] #[]) #[(gv (isB v212 true) r205.1)] r213.2)).bind fun r214 =>
    (guardQ v212 true (Qbin Tryd.prog Go.BinOp.eql 3 r213.1 r214.1)).bind fun v215 =>
    (Qpick v212 v215 (Go.Value.bool false)).bind fun v216 =>
    some (v216, r214.2)
  ) (
    (Qbin Tryd.prog Go.BinOp.rem 22 s10 (Go.Value.int Go.IntKind.u16 2)).bind fun v217 =>
    (Qbin Tryd.prog Go.BinOp.eql 22 v217 (Go.Value.int Go.IntKind.u16 0)).bind fun v218 =>
    (guardX v218 true r206.2 (Xcall Tryd.prog (Value.func (Fn.func 16) #[] #[]) #[(gv (isB v218 true) r205.1), (gv (isB v218 true) s10)] r206.2)).bind fun r219 =>
    (guardQ v218 true (Qun Go.UnOp.not r219.1)).bind fun v220 =>
    (Qpick v218 v220 (Go.Value.bool false)).bind fun v221 =>
    (guardQ v221 true (Qbin Tryd.prog Go.BinOp.lss 22 (gv (isB v221 true) s10) (Go.Value.int Go.IntKind.u16 65535))).bind fun v222 =>
    (Qpick v221 v222 (Go.Value.bool false)).bind fun v223 =>
    (guardQ v223 true (Qbin Tryd.prog Go.BinOp.add 22 (gv (isB v223 true) s10) (Go.Value.int Go.IntKind.u16 1))).bind fun v224 =>
    (guardX v223 true r219.2 (Xcall Tryd.prog (Value.func (Fn.func 16) #[] #[]) #[(gv (isB v223 true) r205.1), v224] r219.2)).bind fun r225 =>
    (guardQ v223 true (Qun Go.UnOp.not r225.1)).bind fun v226 =>
    (Qpick v223 v226 (Go.Value.bool false)).bind fun v227 =>
    (Qbin Tryd.prog Go.BinOp.rem 22 v207 (Go.Value.int Go.IntKind.u16 2)).bind fun v228 =>
    (Qbin Tryd.prog Go.BinOp.eql 22 v228 (Go.Value.int Go.IntKind.u16 0)).bind fun v229 =>
    (guardX v229 true r225.2 (Xcall Tryd.prog (Value.func (Fn.func 16) #[] #[]) #[(gv (isB v229 true) r205.1), (gv (isB v229 true) v207)] r225.2)).bind fun r230 =>
    (guardQ v229 true (Qun Go.UnOp.not r230.1)).bind fun v231 =>
    (Qpick v229 v231 (Go.Value.bool false)).bind fun v232 =>
    (guardQ v232 true (Qbin Tryd.prog Go.BinOp.add 22 (gv (isB v232 true) v207) (Go.Value.int Go.IntKind.u16 1))).bind fun v233 =>
    (guardX v232 true r230.2 (Xcall Tryd.prog (Value.func (Fn.func 16) #[] #[]) #[(gv (isB v232 true) r205.1), v233] r230.2)).bind fun r234 =>
    (guardQ v232 true (Qun Go.UnOp.not r234.1)).bind fun v235 =>
    (Qpick v232 v235 (Go.Value.bool false)).bind fun v236 =>
    (guardX v236 true r234.2 (Xcall Tryd.prog (Value.func (Fn.func 16) #[] #[]) #[(gv (isB v236 true) s7), (gv (isB v236 true) v207)] r234.2)).bind fun r237 =>
    (Qpick v236 r237.1 (Go.Value.bool false)).bind fun v238 =>
    (guardQ v238 true (Qbin Tryd.prog Go.BinOp.add 22 (gv (isB v238 true) v207) (Go.Value.int Go.IntKind.u16 1))).bind fun v239 =>
    (guardX v238 true r237.2 (Xcall Tryd.prog (Value.func (Fn.func 16) #[] #[]) #[(gv (isB v238 true) s7), v239] r237.2)).bind fun r240 =>
    (Qpick v238 r240.1 (Go.Value.bool false)).bind fun v241 =>
    (guardX v241 true r240.2 (Xcall Tryd.prog (Value.func (Fn.func 14) #[] #[]) #[(gv (isB v241 true) s7)] r240.2)).bind fun r242 =>
    (guardX v241 true r242.2 (Xcall Tryd.prog (Value.func (Fn.func 14) #[] #[]) #[(gv (isB v241 true) r205.1)] r242.2)).bind fun r243 =>
    (guardQ v241 true (Qbin Tryd.prog Go.BinOp.sub 3 r243.1 (Go.Value.int Go.IntKind.i64 2))).bind fun v244 =>
    (guardQ v241 true (Qbin Tryd.prog Go.BinOp.eql 3 r242.1 v244)).bind fun v245 =>
    (Qpick v241 v245 (Go.Value.bool false)).bind fun v246 =>
    (guardQ v246 true (Qbin Tryd.prog Go.BinOp.eql 22 (gv (isB v246 true) v207) (gv (isB v246 true) s10))).bind fun v247 =>
    (guardQ (gv (isB v246 true) (gv (isB v246 true) v227)) true (Qbin Tryd.prog Go.BinOp.eql 22 (gv (isB (gv (isB v246 true) (gv (isB v246 true) v227)) true) v207) (gv (isB (gv (isB v246 true) (gv (isB v246 true) v227)) true) s10))).bind fun v248 =>
    (guardQ v246 true (Qpick (gv (isB v246 true) (gv (isB v246 true) v227)) v248 (Go.Value.bool false))).bind fun v249 =>
    (guardQ v246 true (Qbin Tryd.prog Go.BinOp.eql 4 v247 v249)).bind fun v250 =>
    (Qpick v246 v250 (Go.Value.bool false)).bind fun v251 =>
    some (v251, r243.2)
  )
noncomputable def s9raw (x0 x1 x2 : Value) (w : World) : Option (Value × World) :=
  (Xcall Tryd.prog (Value.func (Fn.func 11) #[] #[]) #[x0, x1, x2] w).bind fun r192 =>
  (Qext r192.1 0).bind fun v193 =>
  (Qext r192.1 1).bind fun v194 =>
  (Qext r192.1 2).bind fun v195 =>
  (Xcall Tryd.prog (Value.func (Fn.func 12) #[] #[]) #[] r192.2).bind fun r196 =>
  (Qun Go.UnOp.not r196.1).bind fun v197 =>
  (guardQ v197 false (Qun Go.UnOp.not (gv (isB v197 false) v195))).bind fun v198 =>
  (Qpick v197 (Go.Value.bool true) v198).bind fun v199 =>
  condK v199 (
    some ((Go.Value.bool false), r196.2)
  ) (
    (Qlen Tryd.prog #[23] 3 #[x2] r196.2).bind fun v200 =>
    (Qbin Tryd.prog Go.BinOp.gtr 3 v200 (Go.Value.int Go.IntKind.i64 0)).bind fun v201 =>
    condK v201 (
      (QindexAddr Tryd.prog 23 x2 (Go.Value.int Go.IntKind.i64 0) r196.2).bind fun v202 =>
      (QfieldAddr Tryd.prog 29 v202 1).bind fun v203 =>
      (Qload Tryd.prog 22 v203 r196.2).bind fun v204 =>
      s9J0 [x0, x1, x2, undef, undef, undef, (Go.Value.bool false), v193, v194, v195, v204, undef, undef, undef, undef, r192.1, x0, x1, x2, r192.1, v193, v194, v195, r196.1, v197, v197, (gv (isB v197 false) v195), v198, v199, x0, x2, v200, v201, x2, v202, v203, v204, undef, undef, undef, undef, undef, undef, undef, undef, undef, undef, undef, undef, undef, undef, undef, undef, undef, undef, undef, undef, undef, undef, undef, undef, undef, undef, undef, undef, undef, undef, undef, undef, undef, undef, undef, undef, undef, undef, undef, undef, undef, undef, undef, undef, undef, undef, undef, undef, undef, undef, undef, undef, undef, undef, undef, undef, undef, undef, undef, undef, undef, undef, undef, undef, undef, undef, undef, undef, undef, undef, undef, undef, undef, undef, undef, undef, undef, undef, undef, undef, undef, undef, undef, undef, undef, undef, undef, undef, undef, undef] [] r196.2
    ) (
      s9J0 [x0, x1, x2, undef, undef, undef, (Go.Value.bool false), v193, v194, v195, x0, undef, undef, undef, undef, r192.1, x0, x1, x2, r192.1, v193, v194, v195, r196.1, v197, v197, (gv (isB v197 false) v195), v198, v199, x0, x2, v200, v201, undef, undef, undef, undef, undef, undef, undef, undef, undef, undef, undef, undef, undef, undef, undef, undef, undef, undef, undef, undef, undef, undef, undef, undef, undef, undef, undef, undef, undef, undef, undef, undef, undef, undef, undef, undef, undef, undef, undef, undef, undef, undef, undef, undef, undef, undef, undef, undef, undef, undef, undef, undef, undef, undef, undef, undef, undef, undef, undef, undef, undef, undef, undef, undef, undef, undef, undef, undef, undef, undef, undef, undef, undef, undef, undef, undef, undef, undef, undef, undef, undef, undef, undef, undef, undef, undef, undef, undef, undef, undef, undef, undef, undef, undef] [] r196.2
    )
  )
noncomputable def s9 (x0 x1 x2 : Value) (w : World) : Option (Value × World) :=
  (Xcall Tryd.prog (Value.func (Fn.func 11) #[] #[]) #[x0, x1, x2] w).bind fun r192 =>
  (Qext r192.1 0).bind fun v193 =>
  (Qext r192.1 1).bind fun _ =>
  (Qext r192.1 2).bind fun v195 =>
  (Xcall Tryd.prog (Value.func (Fn.func 12) #[] #[]) #[] r192.2).bind fun r196 =>
  (Qun Go.UnOp.not r196.1).bind fun v197 =>
  (guardQ v197 false (Qun Go.UnOp.not (gv (isB v197 false) v195))).bind fun v198 =>
  (Qpick v197 (Go.Value.bool true) v198).bind fun v199 =>
  condK v199 (
    some ((Go.Value.bool false), r196.2)
  ) (
    (Qlen Tryd.prog #[23] 3 #[x2] r196.2).bind fun v200 =>
    (Qbin Tryd.prog Go.BinOp.gtr 3 v200 (Go.Value.int Go.IntKind.i64 0)).bind fun v201 =>
    condK v201 (
      (QindexAddr Tryd.prog 23 x2 (Go.Value.int Go.IntKind.i64 0) r196.2).bind fun v202 =>
      (QfieldAddr Tryd.prog 29 v202 1).bind fun v203 =>
      (Qload Tryd.prog 22 v203 r196.2).bind fun v204 =>
      s9M0 v193 v204 r196.2
    ) (
      s9M0 v193 x0 r196.2
    )
  )
theorem s9J0eq (s0 s1 s2 s3 s4 s5 s6 s7 s8 s9 s10 s11 s12 s13 s14 s15 s16 s17 s18 s19 s20 s21 s22 s23 s24 s25 s26 s27 s28 s29 s30 s31 s32 s33 s34 s35 s36 s37 s38 s39 s40 s41 s42 s43 s44 s45 s46 s47 s48 s49 s50 s51 s52 s53 s54 s55 s56 s57 s58 s59 s60 s61 s62 s63 s64 s65 s66 s67 s68 s69 s70 s71 s72 s73 s74 s75 s76 s77 s78 s79 s80 s81 s82 s83 s84 s85 s86 s87 s88 s89 s90 s91 s92 s93 s94 s95 s96 s97 s98 s99 s100 s101 s102 s103 s104 s105 s106 s107 s108 s109 s110 s111 s112 s113 s114 s115 s116 s117 s118 s119 s120 s121 s122 s123 s124 s125 s126 : Value) (w : World) : s9J0 [s0, s1, s2, s3, s4, s5, s6, s7, s8, s9, s10, s11, s12, s13, s14, s15, s16, s17, s18, s19, s20, s21, s22, s23, s24, s25, s26, s27, s28, s29, s30, s31, s32, s33, s34, s35, s36, s37, s38, s39, s40, s41, s42, s43, s44, s45, s46, s47, s48, s49, s50, s51, s52, s53, s54, s55, s56, s57, s58, s59, s60, s61, s62, s63, s64, s65, s66, s67, s68, s69, s70, s71, s72, s73, s74, s75, s76, s77, s78, s79, s80, s81, s82, s83, s84, s85, s86, s87, s88, s89, s90, s91, s92, s93, s94, s95, s96, s97, s98, s99, s100, s101, s102, s103, s104, s105, s106, s107, s108, s109, s110, s111, s112, s113, s114, s115, s116, s117, s118, s119, s120, s121, s122, s123, s124, s125, s126] [] w = s9M0 s7 s10 w := (show s9J0 [s0, s1, s2, s3, s4, s5, s6, s7, s8, s9, s10, s11, s12, s13, s14, s15, s16, s17, s18, s19, s20, s21, s22, s23, s24, s25, s26, s27, s28, s29, s30, s31, s32, s33, s34, s35, s36, s37, s38, s39, s40, s41, s42, s43, s44, s45, s46, s47, s48, s49, s50, s51, s52, s53, s54, s55, s56, s57, s58, s59, s60, s61, s62, s63, s64, s65, s66, s67, s68, s69, s70, s71, s72, s73, s74, s75, s76, s77, s78, s79, s80, s81, s82, s83, s84, s85, s86, s87, s88, s89, s90, s91, s92, s93, s94, s95, s96, s97, s98, s99, s100, s101, s102, s103, s104, s105, s106, s107, s108, s109, s110, s111, s112, s113, s114, s115, s116, s117, s118, s119, s120, s121, s122, s123, s124, s125, s126] [] w = evK Tryd.prog 9 none (nav [1, 1, 1, 1, 1] (bodyOf Tryd.f9)) none _ ⟨[s0, s1, s2, s3, s4, s5, s6, s7, s8, s9, s10, s11, s12, s13, s14, s15, s16, s17, s18, s19, s20, s21, s22, s23, s24, s25, s26, s27, s28, s29, s30, s31, s32, s33, s34, s35, s36, s37, s38, s39, s40, s41, s42, s43, s44, s45, s46, s47, s48, s49, s50, s51, s52, s53, s54, s55, s56, s57, s58, s59, s60, s61, s62, s63, s64, s65, s66, s67, s68, s69, s70, s71, s72, s73, s74, s75, s76, s77, s78, s79, s80, s81, s82, s83, s84, s85, s86, s87, s88, s89, s90, s91, s92, s93, s94, s95, s96, s97, s98, s99, s100, s101, s102, s103, s104, s105, s106, s107, s108, s109, s110, s111, s112, s113, s114, s115, s116, s117, s118, s119, s120, s121, s122, s123, s124, s125, s126].toArray, []⟩ w (leaveK Tryd.prog Tryd.f9) from by kernel_rfl).trans (by kernel_rfl)
theorem s9J0of {s0 s1 s2 s3 s4 s5 s6 s7 s8 s9 s10 s11 s12 s13 s14 s15 s16 s17 s18 s19 s20 s21 s22 s23 s24 s25 s26 s27 s28 s29 s30 s31 s32 s33 s34 s35 s36 s37 s38 s39 s40 s41 s42 s43 s44 s45 s46 s47 s48 s49 s50 s51 s52 s53 s54 s55 s56 s57 s58 s59 s60 s61 s62 s63 s64 s65 s66 s67 s68 s69 s70 s71 s72 s73 s74 s75 s76 s77 s78 s79 s80 s81 s82 s83 s84 s85 s86 s87 s88 s89 s90 s91 s92 s93 s94 s95 s96 s97 s98 s99 s100 s101 s102 s103 s104 s105 s106 s107 s108 s109 s110 s111 s112 s113 s114 s115 s116 s117 s118 s119 s120 s121 s122 s123 s124 s125 s126 : Value} {w : World} {r : _} (h : s9M0 s7 s10 w = some r) : s9J0 [s0, s1, s2, s3, s4, s5, s6, s7, s8, s9, s10, s11, s12, s13, s14, s15, s16, s17, s18, s19, s20, s21, s22, s23, s24, s25, s26, s27, s28, s29, s30, s31, s32, s33, s34, s35, s36, s37, s38, s39, s40, s41, s42, s43, s44, s45, s46, s47, s48, s49, s50, s51, s52, s53, s54, s55, s56, s57, s58, s59, s60, s61, s62, s63, s64, s65, s66, s67, s68, s69, s70, s71, s72, s73, s74, s75, s76, s77, s78, s79, s80, s81, s82, s83, s84, s85, s86, s87, s88, s89, s90, s91, s92, s93, s94, s95, s96, s97, s98, s99, s100, s101, s102, s103, s104, s105, s106, s107, s108, s109, s110, s111, s112, s113, s114, s115, s116, s117, s118, s119, s120, s121, s122, s123, s124, s125, s126] [] w = some r :=
  ((s9J0eq s0 s1 s2 s3 s4 s5 s6 s7 s8 s9 s10 s11 s12 s13 s14 s15 s16 s17 s18 s19 s20 s21 s22 s23 s24 s25 s26 s27 s28 s29 s30 s31 s32 s33 s34 s35 s36 s37 s38 s39 s40 s41 s42 s43 s44 s45 s46 s47 s48 s49 s50 s51 s52 s53 s54 s55 s56 s57 s58 s59 s60 s61 s62 s63 s64 s65 s66 s67 s68 s69 s70 s71 s72 s73 s74 s75 s76 s77 s78 s79 s80 s81 s82 s83 s84 s85 s86 s87 s88 s89 s90 s91 s92 s93 s94 s95 s96 s97 s98 s99 s100 s101 s102 s103 s104 s105 s106 s107 s108 s109 s110 s111 s112 s113 s114 s115 s116 s117 s118 s119 s120 s121 s122 s123 s124 s125 s126 w).trans h)
theorem s9eq (x0 x1 x2 : Value) (w : World) : evK Tryd.prog 9 none (bodyOf Tryd.f9) none _ { tmps := (([x0, x1, x2] : List Value) ++ List.replicate (127 - 3) undef).toArray, defers := [] } w (leaveK Tryd.prog Tryd.f9) = s9raw x0 x1 x2 w := by kernel_rfl
theorem c9 {x0 x1 x2 : Value} {w : World} {r : Value × World} (h : s9 x0 x1 x2 w = some r) : C Tryd.prog 9 #[x0, x1, x2] w = some r :=
  C_ev follows_all drawLaw (by kernel_rfl) Tryd.func9 (by rfl) ((s9eq x0 x1 x2 w).trans (show s9raw x0 x1 x2 w = some r from (Ev.bind_mono fun (r192 : Value × World) => (Ev.bind_mono fun (v193 : Value) => (Ev.bind_mono fun (v194 : Value) => (Ev.bind_mono fun (v195 : Value) => (Ev.bind_mono fun (r196 : Value × World) => (Ev.bind_mono fun (v197 : Value) => (Ev.bind_mono fun (v198 : Value) => (Ev.bind_mono fun (v199 : Value) => (condK_mono id (Ev.bind_mono fun (v200 : Value) => (Ev.bind_mono fun (v201 : Value) => (condK_mono (Ev.bind_mono fun (v202 : Value) => (Ev.bind_mono fun (v203 : Value) => (Ev.bind_mono fun (v204 : Value) => (s9J0of)))) (s9J0of))))))))))))) h))
theorem e9 {x0 x1 x2 : Value} {w : World} {Q : Value × World → Prop} (h : Brings (s9 x0 x1 x2 w) Q) : Brings (Xcall Tryd.prog (Value.func (Fn.func 9) #[] #[]) #[x0, x1, x2] w) Q :=
  h.call (Xcall_fn Tryd.func9 (by decide +kernel) (by rfl) _ _ _ w) fun _ h => c9 h

/-! lychgate/lychgatetop.TopPorts -/
noncomputable def s10K0 : Exit → Act → World → Option (Value × World) := seqK (fun a w => evK Tryd.prog 10 none (nav [1, 1] (bodyOf Tryd.f10)) none _ a w (leaveK Tryd.prog Tryd.f10)) (leaveK Tryd.prog Tryd.f10)
noncomputable def s10J0 (s : List Value) (d : List Deferred) (w : World) : Option (Value × World) := s10K0 .normal ⟨s.toArray, d⟩ w
noncomputable def s10K1 : Exit → Act → World → Option (Value × World) := seqK (fun a w => evK Tryd.prog 10 none (nav [1, 1, 1, 1] (bodyOf Tryd.f10)) none _ a w (leaveK Tryd.prog Tryd.f10)) (leaveK Tryd.prog Tryd.f10)
noncomputable def s10K2 : Exit → Act → World → Option (Value × World) := blockK 0 s10K1
noncomputable def s10L1 (s : List Value) (d : List Deferred) (w : World) : Option (Value × World) := loopN Tryd.prog 10 none (nav [1, 1, 1, 0, 1, 0, 0] (bodyOf Tryd.f10)) s10K2 s d w
noncomputable def s10K3 : Exit → Act → World → Option (Value × World) := seqK (fun a w => evK Tryd.prog 10 none (nav [1, 1, 1, 1, 1, 1, 1] (bodyOf Tryd.f10)) none _ a w (leaveK Tryd.prog Tryd.f10)) (leaveK Tryd.prog Tryd.f10)
noncomputable def s10K4 : Exit → Act → World → Option (Value × World) := blockK 2 s10K3
noncomputable def s10L2 (s : List Value) (d : List Deferred) (w : World) : Option (Value × World) := loopN Tryd.prog 10 none (nav [1, 1, 1, 1, 1, 1, 0, 1, 0, 0] (bodyOf Tryd.f10)) s10K4 s d w
noncomputable def s10B2 : List Value → World → Option (Exit × List Value × World)
  | [x0, x1, x4, x5, x11], w =>
    (Qconv Tryd.prog 5 3 x1).bind fun v279 =>
    (Qbin Tryd.prog Go.BinOp.leq 3 x11 v279).bind fun v280 =>
    condK v280 (
      (Qconv Tryd.prog 3 22 x11).bind fun v281 =>
      (Qbin Tryd.prog Go.BinOp.add 22 x0 v281).bind fun v282 =>
      (Xcall Tryd.prog (Value.func (Fn.func 18) #[] #[]) #[x5, v282] w).bind fun r283 =>
      (Qbin Tryd.prog Go.BinOp.neq 35 r283.1 (Go.Value.int Go.IntKind.i64 0)).bind fun v284 =>
      condK v284 (
        some (Exit.ret, [x0, x1, (Go.Value.bool false), x5, x11], r283.2)
      ) (
        (Qbin Tryd.prog Go.BinOp.add 3 x11 (Go.Value.int Go.IntKind.i64 1)).bind fun v285 =>
        some (Exit.normal, [x0, x1, x4, x5, v285], r283.2)
      )
    ) (
      some ((Exit.exit 2), [x0, x1, x4, x5, x11], w)
    )
  | _, _ => none
noncomputable def s10R2 : Exit → List Value → World → Option (Value × World)
  | (Exit.exit 2), [_, x1, _, x5, _], w =>
    (Xcall Tryd.prog (Value.func (Fn.func 14) #[] #[]) #[x5] w).bind fun r286 =>
    (Qconv Tryd.prog 5 3 x1).bind fun v287 =>
    (Qbin Tryd.prog Go.BinOp.add 3 v287 (Go.Value.int Go.IntKind.i64 1)).bind fun v288 =>
    (Qbin Tryd.prog Go.BinOp.eql 3 r286.1 v288).bind fun v289 =>
    (guardX v289 true r286.2 (Xcall Tryd.prog (Value.func (Fn.func 17) #[] #[]) #[(gv (isB v289 true) x5)] r286.2)).bind fun r290 =>
    (guardQ v289 true (Qlen Tryd.prog #[33] 3 #[r290.1] r290.2)).bind fun v291 =>
    (guardQ v289 true (Qbin Tryd.prog Go.BinOp.eql 3 v291 (Go.Value.int Go.IntKind.i64 0))).bind fun v292 =>
    (Qpick v289 v292 (Go.Value.bool false)).bind fun v293 =>
    some (v293, r290.2)
  | Exit.ret, [_, _, x4, _, _], w =>
    some (x4, w)
  | _, _, _ => none
noncomputable def s10B1 : List Value → World → Option (Exit × List Value × World)
  | [x0, x1, x4, x5, x6], w =>
    (Qconv Tryd.prog 5 3 x1).bind fun v261 =>
    (Qbin Tryd.prog Go.BinOp.leq 3 x6 v261).bind fun v262 =>
    condK v262 (
      (Xcall Tryd.prog (Value.func (Fn.func 15) #[] #[]) #[x5, (Go.Value.int Go.IntKind.u16 0)] w).bind fun r263 =>
      (Qext r263.1 0).bind fun v264 =>
      (Qext r263.1 1).bind fun v265 =>
      (Qbin Tryd.prog Go.BinOp.neq 35 v265 (Go.Value.int Go.IntKind.i64 0)).bind fun v266 =>
      (guardQ v266 false (Qconv Tryd.prog 3 22 (gv (isB v266 false) x6))).bind fun v267 =>
      (guardQ v266 false (Qbin Tryd.prog Go.BinOp.add 22 (gv (isB v266 false) x0) v267)).bind fun v268 =>
      (guardQ v266 false (Qbin Tryd.prog Go.BinOp.neq 22 (gv (isB v266 false) v264) v268)).bind fun v269 =>
      (Qpick v266 (Go.Value.bool true) v269).bind fun v270 =>
      condK v270 (
        some (Exit.ret, [x0, x1, (Go.Value.bool false), x5, x6], r263.2)
      ) (
        (Qbin Tryd.prog Go.BinOp.add 3 x6 (Go.Value.int Go.IntKind.i64 1)).bind fun v271 =>
        some (Exit.normal, [x0, x1, x4, x5, v271], r263.2)
      )
    ) (
      some ((Exit.exit 0), [x0, x1, x4, x5, x6], w)
    )
  | _, _ => none
noncomputable def s10R1 : Exit → List Value → World → Option (Value × World)
  | (Exit.exit 0), [x0, x1, x4, x5, _], w =>
    (Xcall Tryd.prog (Value.func (Fn.func 15) #[] #[]) #[x5, x0] w).bind fun r272 =>
    (Qext r272.1 0).bind fun _ =>
    (Qext r272.1 1).bind fun v274 =>
    (Qbin Tryd.prog Go.BinOp.neq 35 v274 (Go.Value.int Go.IntKind.i64 9)).bind fun v275 =>
    (guardX v275 false r272.2 (Xcall Tryd.prog (Value.func (Fn.func 14) #[] #[]) #[(gv (isB v275 false) x5)] r272.2)).bind fun r276 =>
    (guardQ v275 false (Qbin Tryd.prog Go.BinOp.neq 3 r276.1 (Go.Value.int Go.IntKind.i64 0))).bind fun v277 =>
    (Qpick v275 (Go.Value.bool true) v277).bind fun v278 =>
    condK v278 (
      some ((Go.Value.bool false), r276.2)
    ) (
      loopR s10B2 s10R2 [x0, x1, x4, x5, (Go.Value.int Go.IntKind.i64 0)] r276.2
    )
  | Exit.ret, [_, _, x4, _, _], w =>
    some (x4, w)
  | _, _, _ => none
noncomputable def s10R1x0raw (x0 x1 x4 x5 x6 : Value) (g : Nat → Value) (w : World) : Option (Value × World) :=
  (Xcall Tryd.prog (Value.func (Fn.func 15) #[] #[]) #[x5, x0] w).bind fun r272 =>
  (Qext r272.1 0).bind fun v273 =>
  (Qext r272.1 1).bind fun v274 =>
  (Qbin Tryd.prog Go.BinOp.neq 35 v274 (Go.Value.int Go.IntKind.i64 9)).bind fun v275 =>
  (guardX v275 false r272.2 (Xcall Tryd.prog (Value.func (Fn.func 14) #[] #[]) #[(gv (isB v275 false) x5)] r272.2)).bind fun r276 =>
  (guardQ v275 false (Qbin Tryd.prog Go.BinOp.neq 3 r276.1 (Go.Value.int Go.IntKind.i64 0))).bind fun v277 =>
  (Qpick v275 (Go.Value.bool true) v277).bind fun v278 =>
  condK v278 (
    some ((Go.Value.bool false), r276.2)
  ) (
    s10L2 [x0, x1, (g 2), (g 3), x4, x5, x6, (g 7), (g 8), v273, v274, (Go.Value.int Go.IntKind.i64 0), (g 12), (g 13), (g 14), (g 15), (g 16), (g 17), (g 18), (g 19), (g 20), (g 21), (g 22), (g 23), (g 24), (g 25), (g 26), (g 27), (g 28), (g 29), (g 30), (g 31), (g 32), (g 33), (g 34), (g 35), (g 36), (g 37), (g 38), (g 39), (g 40), (g 41), (g 42), (g 43), (g 44), (g 45), (g 46), (g 47), (g 48), r272.1, x5, x0, r272.1, v273, v274, v274, v275, v275, (gv (isB v275 false) x5), r276.1, v277, v278, (g 62), (g 63), (g 64), (g 65), (g 66), (g 67), (g 68), (g 69), (g 70), (g 71), (g 72), (g 73), (g 74), (g 75), (g 76), (g 77), (g 78), (g 79), (g 80), (g 81), (g 82), (g 83), (g 84), (g 85), (g 86)] [] r276.2
  )
noncomputable def s10M0raw (s0 s1 s2 s3 s4 _s5 _s6 s7 s8 s9 s10 s11 s12 s13 s14 s15 s16 s17 s18 s19 s20 s21 _s22 _s23 _s24 _s25 _s26 _s27 s28 s29 s30 s31 s32 s33 s34 s35 s36 s37 s38 s39 s40 s41 s42 s43 s44 s45 s46 s47 s48 s49 s50 s51 s52 s53 s54 s55 s56 s57 s58 s59 s60 s61 s62 s63 s64 s65 s66 s67 s68 s69 s70 s71 s72 s73 s74 s75 s76 s77 s78 s79 s80 s81 s82 s83 s84 s85 s86 : Value) (w : World) : Option (Value × World) :=
  (Qconv Tryd.prog 5 22 s1).bind fun v258 =>
  (Qbin Tryd.prog Go.BinOp.add 22 s0 v258).bind fun v259 =>
  (Xcall Tryd.prog (Value.func (Fn.func 23) #[] #[]) #[s0, v259] w).bind fun r260 =>
  s10L1 [s0, s1, s2, s3, s4, r260.1, (Go.Value.int Go.IntKind.i64 0), s7, s8, s9, s10, s11, s12, s13, s14, s15, s16, s17, s18, s19, s20, s21, s0, s0, s1, v258, v259, r260.1, s28, s29, s30, s31, s32, s33, s34, s35, s36, s37, s38, s39, s40, s41, s42, s43, s44, s45, s46, s47, s48, s49, s50, s51, s52, s53, s54, s55, s56, s57, s58, s59, s60, s61, s62, s63, s64, s65, s66, s67, s68, s69, s70, s71, s72, s73, s74, s75, s76, s77, s78, s79, s80, s81, s82, s83, s84, s85, s86] [] r260.2
noncomputable def s10M0 (s0 s1 s4 : Value) (w : World) : Option (Value × World) :=
  (Qconv Tryd.prog 5 22 s1).bind fun v258 =>
  (Qbin Tryd.prog Go.BinOp.add 22 s0 v258).bind fun v259 =>
  (Xcall Tryd.prog (Value.func (Fn.func 23) #[] #[]) #[s0, v259] w).bind fun r260 =>
  loopR s10B1 s10R1 [s0, s1, s4, r260.1, (Go.Value.int Go.IntKind.i64 0)] r260.2
noncomputable def s10raw (x0 x1 : Value) (w : World) : Option (Value × World) :=
  (Qbin Tryd.prog Go.BinOp.eql 22 x0 (Go.Value.int Go.IntKind.u16 0)).bind fun v252 =>
  (guardQ v252 false (Qconv Tryd.prog 22 3 (gv (isB v252 false) x0))).bind fun v253 =>
  (guardQ v252 false (Qconv Tryd.prog 5 3 (gv (isB v252 false) x1))).bind fun v254 =>
  (guardQ v252 false (Qbin Tryd.prog Go.BinOp.add 3 v253 v254)).bind fun v255 =>
  (guardQ v252 false (Qbin Tryd.prog Go.BinOp.gtr 3 v255 (Go.Value.int Go.IntKind.i64 65535))).bind fun v256 =>
  (Qpick v252 (Go.Value.bool true) v256).bind fun v257 =>
  condK v257 (
    s10J0 [(Go.Value.int Go.IntKind.u16 1), x1, undef, undef, (Go.Value.bool false), undef, undef, undef, undef, undef, undef, undef, x0, v252, v252, (gv (isB v252 false) x0), v253, (gv (isB v252 false) x1), v254, v255, v256, v257, undef, undef, undef, undef, undef, undef, undef, undef, undef, undef, undef, undef, undef, undef, undef, undef, undef, undef, undef, undef, undef, undef, undef, undef, undef, undef, undef, undef, undef, undef, undef, undef, undef, undef, undef, undef, undef, undef, undef, undef, undef, undef, undef, undef, undef, undef, undef, undef, undef, undef, undef, undef, undef, undef, undef, undef, undef, undef, undef, undef, undef, undef, undef, undef, undef] [] w
  ) (
    s10J0 [x0, x1, undef, undef, (Go.Value.bool false), undef, undef, undef, undef, undef, undef, undef, x0, v252, v252, (gv (isB v252 false) x0), v253, (gv (isB v252 false) x1), v254, v255, v256, v257, undef, undef, undef, undef, undef, undef, undef, undef, undef, undef, undef, undef, undef, undef, undef, undef, undef, undef, undef, undef, undef, undef, undef, undef, undef, undef, undef, undef, undef, undef, undef, undef, undef, undef, undef, undef, undef, undef, undef, undef, undef, undef, undef, undef, undef, undef, undef, undef, undef, undef, undef, undef, undef, undef, undef, undef, undef, undef, undef, undef, undef, undef, undef, undef, undef] [] w
  )
noncomputable def s10 (x0 x1 : Value) (w : World) : Option (Value × World) :=
  (Qbin Tryd.prog Go.BinOp.eql 22 x0 (Go.Value.int Go.IntKind.u16 0)).bind fun v252 =>
  (guardQ v252 false (Qconv Tryd.prog 22 3 (gv (isB v252 false) x0))).bind fun v253 =>
  (guardQ v252 false (Qconv Tryd.prog 5 3 (gv (isB v252 false) x1))).bind fun v254 =>
  (guardQ v252 false (Qbin Tryd.prog Go.BinOp.add 3 v253 v254)).bind fun v255 =>
  (guardQ v252 false (Qbin Tryd.prog Go.BinOp.gtr 3 v255 (Go.Value.int Go.IntKind.i64 65535))).bind fun v256 =>
  (Qpick v252 (Go.Value.bool true) v256).bind fun v257 =>
  condK v257 (
    s10M0 (Go.Value.int Go.IntKind.u16 1) x1 (Go.Value.bool false) w
  ) (
    s10M0 x0 x1 (Go.Value.bool false) w
  )
theorem s10B2eq (x0 x1 x4 x5 x11 : Value) (w : World) (g : Nat → Value) (d : List Deferred) : evK Tryd.prog 10 none (nav [1, 1, 1, 1, 1, 1, 0, 1, 0, 0] (bodyOf Tryd.f10)) none _ (frm 87 (setL [0, 1, 4, 5, 11] [x0, x1, x4, x5, x11] g) d) w (projK [0, 1, 4, 5, 11]) = s10B2 [x0, x1, x4, x5, x11] w := by kernel_rfl
theorem s10R2x2eq (x0 x1 x4 x5 x11 : Value) (g : Nat → Value) (w : World) : s10K4 (Exit.exit 2) (frm 87 (setL [0, 1, 4, 5, 11] [x0, x1, x4, x5, x11] g) []) w = s10R2 (Exit.exit 2) [x0, x1, x4, x5, x11] w := by kernel_rfl
theorem s10R2ret_eq (x0 x1 x4 x5 x11 : Value) (g : Nat → Value) (w : World) : s10K4 Exit.ret (frm 87 (setL [0, 1, 4, 5, 11] [x0, x1, x4, x5, x11] g) []) w = s10R2 Exit.ret [x0, x1, x4, x5, x11] w := by kernel_rfl
theorem s10R2of : ∀ (e : Exit) (xs : List Value) (w : World) (g : Nat → Value) (y : _), s10R2 e xs w = some y → s10K4 e (frm 87 (setL [0, 1, 4, 5, 11] xs g) []) w = some y := by
  intro e xs w g y h
  unfold s10R2 at h
  split at h
  · exact (s10R2x2eq _ _ _ _ _ g _).trans h
  · exact (s10R2ret_eq _ _ _ _ _ g _).trans h
  · cases h
theorem s10L2of {s0 s1 s2 s3 s4 s5 s6 s7 s8 s9 s10 s11 s12 s13 s14 s15 s16 s17 s18 s19 s20 s21 s22 s23 s24 s25 s26 s27 s28 s29 s30 s31 s32 s33 s34 s35 s36 s37 s38 s39 s40 s41 s42 s43 s44 s45 s46 s47 s48 s49 s50 s51 s52 s53 s54 s55 s56 s57 s58 s59 s60 s61 s62 s63 s64 s65 s66 s67 s68 s69 s70 s71 s72 s73 s74 s75 s76 s77 s78 s79 s80 s81 s82 s83 s84 s85 s86 : Value} {w : World} {r : _} (h : loopR s10B2 s10R2 [s0, s1, s4, s5, s11] w = some r) : s10L2 [s0, s1, s2, s3, s4, s5, s6, s7, s8, s9, s10, s11, s12, s13, s14, s15, s16, s17, s18, s19, s20, s21, s22, s23, s24, s25, s26, s27, s28, s29, s30, s31, s32, s33, s34, s35, s36, s37, s38, s39, s40, s41, s42, s43, s44, s45, s46, s47, s48, s49, s50, s51, s52, s53, s54, s55, s56, s57, s58, s59, s60, s61, s62, s63, s64, s65, s66, s67, s68, s69, s70, s71, s72, s73, s74, s75, s76, s77, s78, s79, s80, s81, s82, s83, s84, s85, s86] [] w = some r :=
  loopN_of (B := s10B2) (R := s10R2) (n := 87) (live := [0, 1, 4, 5, 11]) (fun xs w g y hl h => match xs, hl, h with | [x0, x1, x4, x5, x11], _, h => (s10B2eq x0 x1 x4 x5 x11 w g []).trans h) (by kernel_rfl) (s10R2of) (fun i => ([s0, s1, s2, s3, s4, s5, s6, s7, s8, s9, s10, s11, s12, s13, s14, s15, s16, s17, s18, s19, s20, s21, s22, s23, s24, s25, s26, s27, s28, s29, s30, s31, s32, s33, s34, s35, s36, s37, s38, s39, s40, s41, s42, s43, s44, s45, s46, s47, s48, s49, s50, s51, s52, s53, s54, s55, s56, s57, s58, s59, s60, s61, s62, s63, s64, s65, s66, s67, s68, s69, s70, s71, s72, s73, s74, s75, s76, s77, s78, s79, s80, s81, s82, s83, s84, s85, s86] : List Value).getD i undef) (by kernel_rfl) rfl h
theorem s10B1eq (x0 x1 x4 x5 x6 : Value) (w : World) (g : Nat → Value) (d : List Deferred) : evK Tryd.prog 10 none (nav [1, 1, 1, 0, 1, 0, 0] (bodyOf Tryd.f10)) none _ (frm 87 (setL [0, 1, 4, 5, 6] [x0, x1, x4, x5, x6] g) d) w (projK [0, 1, 4, 5, 6]) = s10B1 [x0, x1, x4, x5, x6] w := by kernel_rfl
theorem s10R1x0eq (x0 x1 x4 x5 x6 : Value) (g : Nat → Value) (w : World) : s10K2 (Exit.exit 0) (frm 87 (setL [0, 1, 4, 5, 6] [x0, x1, x4, x5, x6] g) []) w = s10R1x0raw x0 x1 x4 x5 x6 g w := by kernel_rfl
theorem s10R1ret_eq (x0 x1 x4 x5 x6 : Value) (g : Nat → Value) (w : World) : s10K2 Exit.ret (frm 87 (setL [0, 1, 4, 5, 6] [x0, x1, x4, x5, x6] g) []) w = s10R1 Exit.ret [x0, x1, x4, x5, x6] w := by kernel_rfl
theorem s10R1of : ∀ (e : Exit) (xs : List Value) (w : World) (g : Nat → Value) (y : _), s10R1 e xs w = some y → s10K2 e (frm 87 (setL [0, 1, 4, 5, 6] xs g) []) w = some y := by
  intro e xs w g y h
  unfold s10R1 at h
  split at h
  · exact (s10R1x0eq _ _ _ _ _ g _).trans ((Ev.bind_mono fun (r272 : Value × World) => (Ev.bind_mono fun (v273 : Value) => (Ev.bind_mono fun (v274 : Value) => (Ev.bind_mono fun (v275 : Value) => (Ev.bind_mono fun (r276 : Value × World) => (Ev.bind_mono fun (v277 : Value) => (Ev.bind_mono fun (v278 : Value) => (condK_mono id (s10L2of))))))))) h)
  · exact (s10R1ret_eq _ _ _ _ _ g _).trans h
  · cases h
theorem s10L1of {s0 s1 s2 s3 s4 s5 s6 s7 s8 s9 s10 s11 s12 s13 s14 s15 s16 s17 s18 s19 s20 s21 s22 s23 s24 s25 s26 s27 s28 s29 s30 s31 s32 s33 s34 s35 s36 s37 s38 s39 s40 s41 s42 s43 s44 s45 s46 s47 s48 s49 s50 s51 s52 s53 s54 s55 s56 s57 s58 s59 s60 s61 s62 s63 s64 s65 s66 s67 s68 s69 s70 s71 s72 s73 s74 s75 s76 s77 s78 s79 s80 s81 s82 s83 s84 s85 s86 : Value} {w : World} {r : _} (h : loopR s10B1 s10R1 [s0, s1, s4, s5, s6] w = some r) : s10L1 [s0, s1, s2, s3, s4, s5, s6, s7, s8, s9, s10, s11, s12, s13, s14, s15, s16, s17, s18, s19, s20, s21, s22, s23, s24, s25, s26, s27, s28, s29, s30, s31, s32, s33, s34, s35, s36, s37, s38, s39, s40, s41, s42, s43, s44, s45, s46, s47, s48, s49, s50, s51, s52, s53, s54, s55, s56, s57, s58, s59, s60, s61, s62, s63, s64, s65, s66, s67, s68, s69, s70, s71, s72, s73, s74, s75, s76, s77, s78, s79, s80, s81, s82, s83, s84, s85, s86] [] w = some r :=
  loopN_of (B := s10B1) (R := s10R1) (n := 87) (live := [0, 1, 4, 5, 6]) (fun xs w g y hl h => match xs, hl, h with | [x0, x1, x4, x5, x6], _, h => (s10B1eq x0 x1 x4 x5 x6 w g []).trans h) (by kernel_rfl) (s10R1of) (fun i => ([s0, s1, s2, s3, s4, s5, s6, s7, s8, s9, s10, s11, s12, s13, s14, s15, s16, s17, s18, s19, s20, s21, s22, s23, s24, s25, s26, s27, s28, s29, s30, s31, s32, s33, s34, s35, s36, s37, s38, s39, s40, s41, s42, s43, s44, s45, s46, s47, s48, s49, s50, s51, s52, s53, s54, s55, s56, s57, s58, s59, s60, s61, s62, s63, s64, s65, s66, s67, s68, s69, s70, s71, s72, s73, s74, s75, s76, s77, s78, s79, s80, s81, s82, s83, s84, s85, s86] : List Value).getD i undef) (by kernel_rfl) rfl h
theorem s10J0eq (s0 s1 s2 s3 s4 s5 s6 s7 s8 s9 s10 s11 s12 s13 s14 s15 s16 s17 s18 s19 s20 s21 s22 s23 s24 s25 s26 s27 s28 s29 s30 s31 s32 s33 s34 s35 s36 s37 s38 s39 s40 s41 s42 s43 s44 s45 s46 s47 s48 s49 s50 s51 s52 s53 s54 s55 s56 s57 s58 s59 s60 s61 s62 s63 s64 s65 s66 s67 s68 s69 s70 s71 s72 s73 s74 s75 s76 s77 s78 s79 s80 s81 s82 s83 s84 s85 s86 : Value) (w : World) : s10J0 [s0, s1, s2, s3, s4, s5, s6, s7, s8, s9, s10, s11, s12, s13, s14, s15, s16, s17, s18, s19, s20, s21, s22, s23, s24, s25, s26, s27, s28, s29, s30, s31, s32, s33, s34, s35, s36, s37, s38, s39, s40, s41, s42, s43, s44, s45, s46, s47, s48, s49, s50, s51, s52, s53, s54, s55, s56, s57, s58, s59, s60, s61, s62, s63, s64, s65, s66, s67, s68, s69, s70, s71, s72, s73, s74, s75, s76, s77, s78, s79, s80, s81, s82, s83, s84, s85, s86] [] w = s10M0raw s0 s1 s2 s3 s4 s5 s6 s7 s8 s9 s10 s11 s12 s13 s14 s15 s16 s17 s18 s19 s20 s21 s22 s23 s24 s25 s26 s27 s28 s29 s30 s31 s32 s33 s34 s35 s36 s37 s38 s39 s40 s41 s42 s43 s44 s45 s46 s47 s48 s49 s50 s51 s52 s53 s54 s55 s56 s57 s58 s59 s60 s61 s62 s63 s64 s65 s66 s67 s68 s69 s70 s71 s72 s73 s74 s75 s76 s77 s78 s79 s80 s81 s82 s83 s84 s85 s86 w := (show s10J0 [s0, s1, s2, s3, s4, s5, s6, s7, s8, s9, s10, s11, s12, s13, s14, s15, s16, s17, s18, s19, s20, s21, s22, s23, s24, s25, s26, s27, s28, s29, s30, s31, s32, s33, s34, s35, s36, s37, s38, s39, s40, s41, s42, s43, s44, s45, s46, s47, s48, s49, s50, s51, s52, s53, s54, s55, s56, s57, s58, s59, s60, s61, s62, s63, s64, s65, s66, s67, s68, s69, s70, s71, s72, s73, s74, s75, s76, s77, s78, s79, s80, s81, s82, s83, s84, s85, s86] [] w = evK Tryd.prog 10 none (nav [1, 1] (bodyOf Tryd.f10)) none _ ⟨[s0, s1, s2, s3, s4, s5, s6, s7, s8, s9, s10, s11, s12, s13, s14, s15, s16, s17, s18, s19, s20, s21, s22, s23, s24, s25, s26, s27, s28, s29, s30, s31, s32, s33, s34, s35, s36, s37, s38, s39, s40, s41, s42, s43, s44, s45, s46, s47, s48, s49, s50, s51, s52, s53, s54, s55, s56, s57, s58, s59, s60, s61, s62, s63, s64, s65, s66, s67, s68, s69, s70, s71, s72, s73, s74, s75, s76, s77, s78, s79, s80, s81, s82, s83, s84, s85, s86].toArray, []⟩ w (leaveK Tryd.prog Tryd.f10) from by kernel_rfl).trans (by kernel_rfl)
theorem s10J0of {s0 s1 s2 s3 s4 s5 s6 s7 s8 s9 s10 s11 s12 s13 s14 s15 s16 s17 s18 s19 s20 s21 s22 s23 s24 s25 s26 s27 s28 s29 s30 s31 s32 s33 s34 s35 s36 s37 s38 s39 s40 s41 s42 s43 s44 s45 s46 s47 s48 s49 s50 s51 s52 s53 s54 s55 s56 s57 s58 s59 s60 s61 s62 s63 s64 s65 s66 s67 s68 s69 s70 s71 s72 s73 s74 s75 s76 s77 s78 s79 s80 s81 s82 s83 s84 s85 s86 : Value} {w : World} {r : _} (h : s10M0 s0 s1 s4 w = some r) : s10J0 [s0, s1, s2, s3, s4, s5, s6, s7, s8, s9, s10, s11, s12, s13, s14, s15, s16, s17, s18, s19, s20, s21, s22, s23, s24, s25, s26, s27, s28, s29, s30, s31, s32, s33, s34, s35, s36, s37, s38, s39, s40, s41, s42, s43, s44, s45, s46, s47, s48, s49, s50, s51, s52, s53, s54, s55, s56, s57, s58, s59, s60, s61, s62, s63, s64, s65, s66, s67, s68, s69, s70, s71, s72, s73, s74, s75, s76, s77, s78, s79, s80, s81, s82, s83, s84, s85, s86] [] w = some r :=
  ((s10J0eq s0 s1 s2 s3 s4 s5 s6 s7 s8 s9 s10 s11 s12 s13 s14 s15 s16 s17 s18 s19 s20 s21 s22 s23 s24 s25 s26 s27 s28 s29 s30 s31 s32 s33 s34 s35 s36 s37 s38 s39 s40 s41 s42 s43 s44 s45 s46 s47 s48 s49 s50 s51 s52 s53 s54 s55 s56 s57 s58 s59 s60 s61 s62 s63 s64 s65 s66 s67 s68 s69 s70 s71 s72 s73 s74 s75 s76 s77 s78 s79 s80 s81 s82 s83 s84 s85 s86 w).trans ((Ev.bind_mono fun (v258 : Value) => (Ev.bind_mono fun (v259 : Value) => (Ev.bind_mono fun (r260 : Value × World) => (s10L1of)))) h))
theorem s10eq (x0 x1 : Value) (w : World) : evK Tryd.prog 10 none (bodyOf Tryd.f10) none _ { tmps := (([x0, x1] : List Value) ++ List.replicate (87 - 2) undef).toArray, defers := [] } w (leaveK Tryd.prog Tryd.f10) = s10raw x0 x1 w := by kernel_rfl
theorem c10 {x0 x1 : Value} {w : World} {r : Value × World} (h : s10 x0 x1 w = some r) : C Tryd.prog 10 #[x0, x1] w = some r :=
  C_ev follows_all drawLaw (by kernel_rfl) Tryd.func10 (by rfl) ((s10eq x0 x1 w).trans (show s10raw x0 x1 w = some r from (Ev.bind_mono fun (v252 : Value) => (Ev.bind_mono fun (v253 : Value) => (Ev.bind_mono fun (v254 : Value) => (Ev.bind_mono fun (v255 : Value) => (Ev.bind_mono fun (v256 : Value) => (Ev.bind_mono fun (v257 : Value) => (condK_mono (s10J0of) (s10J0of)))))))) h))
theorem e10 {x0 x1 : Value} {w : World} {Q : Value × World → Prop} (h : Brings (s10 x0 x1 w) Q) : Brings (Xcall Tryd.prog (Value.func (Fn.func 10) #[] #[]) #[x0, x1] w) Q :=
  h.call (Xcall_fn Tryd.func10 (by decide +kernel) (by rfl) _ _ _ w) fun _ h => c10 h

/-! lychgate/lychgatelaw08.play -/
noncomputable def s11K0 : Exit → Act → World → Option (Value × World) := seqK (fun a w => evK Tryd.prog 11 none (nav [1, 1, 1] (bodyOf Tryd.f11)) none _ a w (leaveK Tryd.prog Tryd.f11)) (leaveK Tryd.prog Tryd.f11)
noncomputable def s11J0 (s : List Value) (d : List Deferred) (w : World) : Option (Value × World) := s11K0 .normal ⟨s.toArray, d⟩ w
noncomputable def s11K1 : Exit → Act → World → Option (Value × World) := seqK (fun a w => evK Tryd.prog 11 none (nav [1, 1, 1, 1, 1] (bodyOf Tryd.f11)) none _ a w (leaveK Tryd.prog Tryd.f11)) (leaveK Tryd.prog Tryd.f11)
noncomputable def s11K2 : Exit → Act → World → Option (Value × World) := blockK 0 s11K1
noncomputable def s11L1 (s : List Value) (d : List Deferred) (w : World) : Option (Value × World) := loopN Tryd.prog 11 none (nav [1, 1, 1, 1, 0, 1, 0, 0] (bodyOf Tryd.f11)) s11K2 s d w
noncomputable def s11B1 : List Value → World → Option (Exit × List Value × World)
  | [x2, x6, x7, x8, x10, x11, x12], w =>
    (Qlen Tryd.prog #[23] 3 #[x2] w).bind fun v301 =>
    (Qbin Tryd.prog Go.BinOp.lss 3 x12 v301).bind fun v302 =>
    (guardQ v302 true (Qbin Tryd.prog Go.BinOp.lss 3 (gv (isB v302 true) x12) (Go.Value.int Go.IntKind.i64 100))).bind fun v303 =>
    (Qpick v302 v303 (Go.Value.bool false)).bind fun v304 =>
    condK v304 (
      (QindexAddr Tryd.prog 23 x2 x12 w).bind fun v305 =>
      (Qload Tryd.prog 29 v305 w).bind fun v306 =>
      (Xcall Tryd.prog (Value.func (Fn.func 22) #[] #[]) #[x10, x11, v306] w).bind fun r307 =>
      (Qun Go.UnOp.not r307.1).bind fun v308 =>
      condK v308 (
        some (Exit.ret, [x2, x10, x11, (Go.Value.bool false), x10, x11, x12], r307.2)
      ) (
        (Qbin Tryd.prog Go.BinOp.add 3 x12 (Go.Value.int Go.IntKind.i64 1)).bind fun v309 =>
        some (Exit.normal, [x2, x6, x7, x8, x10, x11, v309], r307.2)
      )
    ) (
      some ((Exit.exit 0), [x2, x6, x7, x8, x10, x11, x12], w)
    )
  | _, _ => none
noncomputable def s11R1 : Exit → List Value → World → Option (Value × World)
  | (Exit.exit 0), [_, _, _, _, x10, x11, _], w =>
    some ((Value.tuple #[x10, x11, (Go.Value.bool true)]), w)
  | Exit.ret, [_, x6, x7, x8, _, _, _], w =>
    some ((Value.tuple #[x6, x7, x8]), w)
  | _, _, _ => none
noncomputable def s11M0raw (s0 s1 s2 s3 s4 s5 s6 s7 s8 s9 _s10 _s11 _s12 s13 s14 s15 s16 s17 s18 s19 s20 s21 s22 s23 _s24 _s25 _s26 _s27 _s28 _s29 s30 s31 s32 s33 s34 s35 s36 s37 s38 s39 s40 s41 s42 s43 s44 s45 s46 s47 s48 s49 s50 s51 : Value) (w : World) : Option (Value × World) :=
  (Xcall Tryd.prog (Value.func (Fn.func 23) #[] #[]) #[s0, s9] w).bind fun r299 =>
  (Xcall Tryd.prog (Value.func (Fn.func 24) #[] #[]) #[s0, s9] r299.2).bind fun r300 =>
  s11L1 [s0, s1, s2, s3, s4, s5, s6, s7, s8, s9, r299.1, r300.1, (Go.Value.int Go.IntKind.i64 0), s13, s14, s15, s16, s17, s18, s19, s20, s21, s22, s23, s0, s9, r299.1, s0, s9, r300.1, s30, s31, s32, s33, s34, s35, s36, s37, s38, s39, s40, s41, s42, s43, s44, s45, s46, s47, s48, s49, s50, s51] [] r300.2
noncomputable def s11M0 (s0 s2 s6 s7 s8 s9 : Value) (w : World) : Option (Value × World) :=
  (Xcall Tryd.prog (Value.func (Fn.func 23) #[] #[]) #[s0, s9] w).bind fun r299 =>
  (Xcall Tryd.prog (Value.func (Fn.func 24) #[] #[]) #[s0, s9] r299.2).bind fun r300 =>
  loopR s11B1 s11R1 [s2, s6, s7, s8, r299.1, r300.1, (Go.Value.int Go.IntKind.i64 0)] r300.2
noncomputable def s11raw (x0 x1 x2 : Value) (w : World) : Option (Value × World) :=
  (Qbin Tryd.prog Go.BinOp.rem 22 x1 (Go.Value.int Go.IntKind.u16 200)).bind fun v294 =>
  (Qbin Tryd.prog Go.BinOp.add 22 x0 v294).bind fun v295 =>
  (Qbin Tryd.prog Go.BinOp.eql 22 x0 (Go.Value.int Go.IntKind.u16 0)).bind fun v296 =>
  (guardQ v296 false (Qbin Tryd.prog Go.BinOp.lss 22 (gv (isB v296 false) v295) (gv (isB v296 false) x0))).bind fun v297 =>
  (Qpick v296 (Go.Value.bool true) v297).bind fun v298 =>
  condK v298 (
    s11J0 [(Go.Value.int Go.IntKind.u16 10), x1, x2, undef, undef, undef, (Go.Value.pointer none), (Go.Value.pointer none), (Go.Value.bool false), (Go.Value.int Go.IntKind.u16 20), undef, undef, undef, x0, x1, v294, v295, x0, v296, v296, (gv (isB v296 false) v295), (gv (isB v296 false) x0), v297, v298, undef, undef, undef, undef, undef, undef, undef, undef, undef, undef, undef, undef, undef, undef, undef, undef, undef, undef, undef, undef, undef, undef, undef, undef, undef, undef, undef, undef] [] w
  ) (
    s11J0 [x0, x1, x2, undef, undef, undef, (Go.Value.pointer none), (Go.Value.pointer none), (Go.Value.bool false), v295, undef, undef, undef, x0, x1, v294, v295, x0, v296, v296, (gv (isB v296 false) v295), (gv (isB v296 false) x0), v297, v298, undef, undef, undef, undef, undef, undef, undef, undef, undef, undef, undef, undef, undef, undef, undef, undef, undef, undef, undef, undef, undef, undef, undef, undef, undef, undef, undef, undef] [] w
  )
noncomputable def s11 (x0 x1 x2 : Value) (w : World) : Option (Value × World) :=
  (Qbin Tryd.prog Go.BinOp.rem 22 x1 (Go.Value.int Go.IntKind.u16 200)).bind fun v294 =>
  (Qbin Tryd.prog Go.BinOp.add 22 x0 v294).bind fun v295 =>
  (Qbin Tryd.prog Go.BinOp.eql 22 x0 (Go.Value.int Go.IntKind.u16 0)).bind fun v296 =>
  (guardQ v296 false (Qbin Tryd.prog Go.BinOp.lss 22 (gv (isB v296 false) v295) (gv (isB v296 false) x0))).bind fun v297 =>
  (Qpick v296 (Go.Value.bool true) v297).bind fun v298 =>
  condK v298 (
    s11M0 (Go.Value.int Go.IntKind.u16 10) x2 (Go.Value.pointer none) (Go.Value.pointer none) (Go.Value.bool false) (Go.Value.int Go.IntKind.u16 20) w
  ) (
    s11M0 x0 x2 (Go.Value.pointer none) (Go.Value.pointer none) (Go.Value.bool false) v295 w
  )
theorem s11B1eq (x2 x6 x7 x8 x10 x11 x12 : Value) (w : World) (g : Nat → Value) (d : List Deferred) : evK Tryd.prog 11 none (nav [1, 1, 1, 1, 0, 1, 0, 0] (bodyOf Tryd.f11)) none _ (frm 52 (setL [2, 6, 7, 8, 10, 11, 12] [x2, x6, x7, x8, x10, x11, x12] g) d) w (projK [2, 6, 7, 8, 10, 11, 12]) = s11B1 [x2, x6, x7, x8, x10, x11, x12] w := by kernel_rfl
theorem s11R1x0eq (x2 x6 x7 x8 x10 x11 x12 : Value) (g : Nat → Value) (w : World) : s11K2 (Exit.exit 0) (frm 52 (setL [2, 6, 7, 8, 10, 11, 12] [x2, x6, x7, x8, x10, x11, x12] g) []) w = s11R1 (Exit.exit 0) [x2, x6, x7, x8, x10, x11, x12] w := by kernel_rfl
theorem s11R1ret_eq (x2 x6 x7 x8 x10 x11 x12 : Value) (g : Nat → Value) (w : World) : s11K2 Exit.ret (frm 52 (setL [2, 6, 7, 8, 10, 11, 12] [x2, x6, x7, x8, x10, x11, x12] g) []) w = s11R1 Exit.ret [x2, x6, x7, x8, x10, x11, x12] w := by kernel_rfl
theorem s11R1of : ∀ (e : Exit) (xs : List Value) (w : World) (g : Nat → Value) (y : _), s11R1 e xs w = some y → s11K2 e (frm 52 (setL [2, 6, 7, 8, 10, 11, 12] xs g) []) w = some y := by
  intro e xs w g y h
  unfold s11R1 at h
  split at h
  · exact (s11R1x0eq _ _ _ _ _ _ _ g _).trans h
  · exact (s11R1ret_eq _ _ _ _ _ _ _ g _).trans h
  · cases h
theorem s11L1of {s0 s1 s2 s3 s4 s5 s6 s7 s8 s9 s10 s11 s12 s13 s14 s15 s16 s17 s18 s19 s20 s21 s22 s23 s24 s25 s26 s27 s28 s29 s30 s31 s32 s33 s34 s35 s36 s37 s38 s39 s40 s41 s42 s43 s44 s45 s46 s47 s48 s49 s50 s51 : Value} {w : World} {r : _} (h : loopR s11B1 s11R1 [s2, s6, s7, s8, s10, s11, s12] w = some r) : s11L1 [s0, s1, s2, s3, s4, s5, s6, s7, s8, s9, s10, s11, s12, s13, s14, s15, s16, s17, s18, s19, s20, s21, s22, s23, s24, s25, s26, s27, s28, s29, s30, s31, s32, s33, s34, s35, s36, s37, s38, s39, s40, s41, s42, s43, s44, s45, s46, s47, s48, s49, s50, s51] [] w = some r :=
  loopN_of (B := s11B1) (R := s11R1) (n := 52) (live := [2, 6, 7, 8, 10, 11, 12]) (fun xs w g y hl h => match xs, hl, h with | [x2, x6, x7, x8, x10, x11, x12], _, h => (s11B1eq x2 x6 x7 x8 x10 x11 x12 w g []).trans h) (by kernel_rfl) (s11R1of) (fun i => ([s0, s1, s2, s3, s4, s5, s6, s7, s8, s9, s10, s11, s12, s13, s14, s15, s16, s17, s18, s19, s20, s21, s22, s23, s24, s25, s26, s27, s28, s29, s30, s31, s32, s33, s34, s35, s36, s37, s38, s39, s40, s41, s42, s43, s44, s45, s46, s47, s48, s49, s50, s51] : List Value).getD i undef) (by kernel_rfl) rfl h
theorem s11J0eq (s0 s1 s2 s3 s4 s5 s6 s7 s8 s9 s10 s11 s12 s13 s14 s15 s16 s17 s18 s19 s20 s21 s22 s23 s24 s25 s26 s27 s28 s29 s30 s31 s32 s33 s34 s35 s36 s37 s38 s39 s40 s41 s42 s43 s44 s45 s46 s47 s48 s49 s50 s51 : Value) (w : World) : s11J0 [s0, s1, s2, s3, s4, s5, s6, s7, s8, s9, s10, s11, s12, s13, s14, s15, s16, s17, s18, s19, s20, s21, s22, s23, s24, s25, s26, s27, s28, s29, s30, s31, s32, s33, s34, s35, s36, s37, s38, s39, s40, s41, s42, s43, s44, s45, s46, s47, s48, s49, s50, s51] [] w = s11M0raw s0 s1 s2 s3 s4 s5 s6 s7 s8 s9 s10 s11 s12 s13 s14 s15 s16 s17 s18 s19 s20 s21 s22 s23 s24 s25 s26 s27 s28 s29 s30 s31 s32 s33 s34 s35 s36 s37 s38 s39 s40 s41 s42 s43 s44 s45 s46 s47 s48 s49 s50 s51 w := (show s11J0 [s0, s1, s2, s3, s4, s5, s6, s7, s8, s9, s10, s11, s12, s13, s14, s15, s16, s17, s18, s19, s20, s21, s22, s23, s24, s25, s26, s27, s28, s29, s30, s31, s32, s33, s34, s35, s36, s37, s38, s39, s40, s41, s42, s43, s44, s45, s46, s47, s48, s49, s50, s51] [] w = evK Tryd.prog 11 none (nav [1, 1, 1] (bodyOf Tryd.f11)) none _ ⟨[s0, s1, s2, s3, s4, s5, s6, s7, s8, s9, s10, s11, s12, s13, s14, s15, s16, s17, s18, s19, s20, s21, s22, s23, s24, s25, s26, s27, s28, s29, s30, s31, s32, s33, s34, s35, s36, s37, s38, s39, s40, s41, s42, s43, s44, s45, s46, s47, s48, s49, s50, s51].toArray, []⟩ w (leaveK Tryd.prog Tryd.f11) from by kernel_rfl).trans (by kernel_rfl)
theorem s11J0of {s0 s1 s2 s3 s4 s5 s6 s7 s8 s9 s10 s11 s12 s13 s14 s15 s16 s17 s18 s19 s20 s21 s22 s23 s24 s25 s26 s27 s28 s29 s30 s31 s32 s33 s34 s35 s36 s37 s38 s39 s40 s41 s42 s43 s44 s45 s46 s47 s48 s49 s50 s51 : Value} {w : World} {r : _} (h : s11M0 s0 s2 s6 s7 s8 s9 w = some r) : s11J0 [s0, s1, s2, s3, s4, s5, s6, s7, s8, s9, s10, s11, s12, s13, s14, s15, s16, s17, s18, s19, s20, s21, s22, s23, s24, s25, s26, s27, s28, s29, s30, s31, s32, s33, s34, s35, s36, s37, s38, s39, s40, s41, s42, s43, s44, s45, s46, s47, s48, s49, s50, s51] [] w = some r :=
  ((s11J0eq s0 s1 s2 s3 s4 s5 s6 s7 s8 s9 s10 s11 s12 s13 s14 s15 s16 s17 s18 s19 s20 s21 s22 s23 s24 s25 s26 s27 s28 s29 s30 s31 s32 s33 s34 s35 s36 s37 s38 s39 s40 s41 s42 s43 s44 s45 s46 s47 s48 s49 s50 s51 w).trans ((Ev.bind_mono fun (r299 : Value × World) => (Ev.bind_mono fun (r300 : Value × World) => (s11L1of))) h))
theorem s11eq (x0 x1 x2 : Value) (w : World) : evK Tryd.prog 11 none (bodyOf Tryd.f11) none _ { tmps := (([x0, x1, x2] : List Value) ++ List.replicate (52 - 3) undef).toArray, defers := [] } w (leaveK Tryd.prog Tryd.f11) = s11raw x0 x1 x2 w := by kernel_rfl
theorem c11 {x0 x1 x2 : Value} {w : World} {r : Value × World} (h : s11 x0 x1 x2 w = some r) : C Tryd.prog 11 #[x0, x1, x2] w = some r :=
  C_ev follows_all drawLaw (by kernel_rfl) Tryd.func11 (by rfl) ((s11eq x0 x1 x2 w).trans (show s11raw x0 x1 x2 w = some r from (Ev.bind_mono fun (v294 : Value) => (Ev.bind_mono fun (v295 : Value) => (Ev.bind_mono fun (v296 : Value) => (Ev.bind_mono fun (v297 : Value) => (Ev.bind_mono fun (v298 : Value) => (condK_mono (s11J0of) (s11J0of))))))) h))
theorem e11 {x0 x1 x2 : Value} {w : World} {Q : Value × World → Prop} (h : Brings (s11 x0 x1 x2 w) Q) : Brings (Xcall Tryd.prog (Value.func (Fn.func 11) #[] #[]) #[x0, x1, x2] w) Q :=
  h.call (Xcall_fn Tryd.func11 (by decide +kernel) (by rfl) _ _ _ w) fun _ h => c11 h

/-! lychgate/lychgatelaw08.live -/
noncomputable def s12 (w : World) : Option (Value × World) :=
  (Xcall Tryd.prog (Value.func (Fn.func 23) #[] #[]) #[(Go.Value.int Go.IntKind.u16 5), (Go.Value.int Go.IntKind.u16 8)] w).bind fun r310 =>
  (Xcall Tryd.prog (Value.func (Fn.func 15) #[] #[]) #[r310.1, (Go.Value.int Go.IntKind.u16 7)] r310.2).bind fun r311 =>
  (Qext r311.1 0).bind fun v312 =>
  (Qext r311.1 1).bind fun v313 =>
  (Xcall Tryd.prog (Value.func (Fn.func 19) #[] #[]) #[r310.1, (Go.Value.int Go.IntKind.u16 5)] r311.2).bind fun r314 =>
  (Qext r314.1 0).bind fun v315 =>
  (Qext r314.1 1).bind fun v316 =>
  (Xcall Tryd.prog (Value.func (Fn.func 15) #[] #[]) #[r310.1, (Go.Value.int Go.IntKind.u16 7)] r314.2).bind fun r317 =>
  (Qext r317.1 0).bind fun v318 =>
  (Qext r317.1 1).bind fun v319 =>
  (Qbin Tryd.prog Go.BinOp.eql 35 v313 (Go.Value.int Go.IntKind.i64 0)).bind fun v320 =>
  (guardQ v320 true (Qbin Tryd.prog Go.BinOp.eql 22 (gv (isB v320 true) v312) (Go.Value.int Go.IntKind.u16 7))).bind fun v321 =>
  (Qpick v320 v321 (Go.Value.bool false)).bind fun v322 =>
  (guardQ v322 true (Qbin Tryd.prog Go.BinOp.eql 35 (gv (isB v322 true) v316) (Go.Value.int Go.IntKind.i64 9))).bind fun v323 =>
  (Qpick v322 v323 (Go.Value.bool false)).bind fun v324 =>
  (guardQ v324 true (Qbin Tryd.prog Go.BinOp.eql 22 (gv (isB v324 true) v315) (Go.Value.int Go.IntKind.u16 0))).bind fun v325 =>
  (Qpick v324 v325 (Go.Value.bool false)).bind fun v326 =>
  (guardQ v326 true (Qbin Tryd.prog Go.BinOp.eql 35 (gv (isB v326 true) v319) (Go.Value.int Go.IntKind.i64 0))).bind fun v327 =>
  (Qpick v326 v327 (Go.Value.bool false)).bind fun v328 =>
  (guardQ v328 true (Qbin Tryd.prog Go.BinOp.eql 22 (gv (isB v328 true) v318) (Go.Value.int Go.IntKind.u16 5))).bind fun v329 =>
  (Qpick v328 v329 (Go.Value.bool false)).bind fun v330 =>
  (guardX v330 true r317.2 (Xcall Tryd.prog (Value.func (Fn.func 14) #[] #[]) #[(gv (isB v330 true) r310.1)] r317.2)).bind fun r331 =>
  (guardQ v330 true (Qbin Tryd.prog Go.BinOp.eql 3 r331.1 (Go.Value.int Go.IntKind.i64 2))).bind fun v332 =>
  (Qpick v330 v332 (Go.Value.bool false)).bind fun v333 =>
  some (v333, r331.2)
theorem s12eq (w : World) : evK Tryd.prog 12 none (bodyOf Tryd.f12) none _ { tmps := (([] : List Value) ++ List.replicate (51 - 0) undef).toArray, defers := [] } w (leaveK Tryd.prog Tryd.f12) = s12  w := by kernel_rfl
theorem c12 {w : World} {r : Value × World} (h : s12  w = some r) : C Tryd.prog 12 #[] w = some r :=
  C_ev follows_all drawLaw (by kernel_rfl) Tryd.func12 (by rfl) ((s12eq  w).trans h)
theorem e12 {w : World} {Q : Value × World → Prop} (h : Brings (s12  w) Q) : Brings (Xcall Tryd.prog (Value.func (Fn.func 12) #[] #[]) #[] w) Q :=
  h.call (Xcall_fn Tryd.func12 (by decide +kernel) (by rfl) _ _ _ w) fun _ h => c12 h

/-! lychgate/lychgatelaw08.same -/
noncomputable def s13K0 : Exit → Act → World → Option (Value × World) := seqK (fun a w => evK Tryd.prog 13 none (nav [1, 1, 1, 1] (bodyOf Tryd.f13)) none _ a w (leaveK Tryd.prog Tryd.f13)) (leaveK Tryd.prog Tryd.f13)
noncomputable def s13K1 : Exit → Act → World → Option (Value × World) := blockK 0 s13K0
noncomputable def s13L0 (s : List Value) (d : List Deferred) (w : World) : Option (Value × World) := loopN Tryd.prog 13 none (nav [1, 1, 1, 0, 1, 0, 0] (bodyOf Tryd.f13)) s13K1 s d w
noncomputable def s13B0 : List Value → World → Option (Exit × List Value × World)
  | [x6, x7, x8, x9], w =>
    (Qlen Tryd.prog #[33] 3 #[x7] w).bind fun v347 =>
    (Qbin Tryd.prog Go.BinOp.lss 3 x9 v347).bind fun v348 =>
    condK v348 (
      (QindexAddr Tryd.prog 33 x7 x9 w.drew).bind fun v349 =>
      (Qload Tryd.prog 22 v349 w.drew).bind fun v350 =>
      (QindexAddr Tryd.prog 33 x8 x9 w.drew).bind fun v351 =>
      (Qload Tryd.prog 22 v351 w.drew).bind fun v352 =>
      (Qbin Tryd.prog Go.BinOp.neq 22 v350 v352).bind fun v353 =>
      chkK True (
        condK v353 (
          some (Exit.ret, [(Go.Value.bool false), x7, x8, x9], w.drew)
        ) (
          (Qbin Tryd.prog Go.BinOp.add 3 x9 (Go.Value.int Go.IntKind.i64 1)).bind fun v354 =>
          some (Exit.normal, [x6, x7, x8, v354], w.drew)
        )
      )
    ) (
      some ((Exit.exit 0), [x6, x7, x8, x9], w)
    )
  | _, _ => none
noncomputable def s13R0 : Exit → List Value → World → Option (Value × World)
  | (Exit.exit 0), [_, _, _, _], w =>
    some ((Go.Value.bool true), w)
  | Exit.ret, [x6, _, _, _], w =>
    some (x6, w)
  | _, _, _ => none
noncomputable def s13raw (x0 x1 x2 : Value) (w : World) : Option (Value × World) :=
  (Xcall Tryd.prog (Value.func (Fn.func 17) #[] #[]) #[x0] w).bind fun r334 =>
  (Xcall Tryd.prog (Value.func (Fn.func 25) #[] #[]) #[x1] r334.2).bind fun r335 =>
  (Qlen Tryd.prog #[33] 3 #[r334.1] r335.2).bind fun v336 =>
  (Qlen Tryd.prog #[33] 3 #[r335.1] r335.2).bind fun v337 =>
  (Qbin Tryd.prog Go.BinOp.neq 3 v336 v337).bind fun v338 =>
  (guardX v338 false r335.2 (Xcall Tryd.prog (Value.func (Fn.func 14) #[] #[]) #[(gv (isB v338 false) x0)] r335.2)).bind fun r339 =>
  (guardX v338 false r339.2 (Xcall Tryd.prog (Value.func (Fn.func 26) #[] #[]) #[(gv (isB v338 false) x1)] r339.2)).bind fun r340 =>
  (guardQ v338 false (Qbin Tryd.prog Go.BinOp.neq 3 r339.1 r340.1)).bind fun v341 =>
  (Qpick v338 (Go.Value.bool true) v341).bind fun v342 =>
  (guardX v342 false r340.2 (Xcall Tryd.prog (Value.func (Fn.func 16) #[] #[]) #[(gv (isB v342 false) x0), (gv (isB v342 false) x2)] r340.2)).bind fun r343 =>
  (guardX v342 false r343.2 (Xcall Tryd.prog (Value.func (Fn.func 27) #[] #[]) #[(gv (isB v342 false) x1), (gv (isB v342 false) x2)] r343.2)).bind fun r344 =>
  (guardQ v342 false (Qbin Tryd.prog Go.BinOp.neq 4 r343.1 r344.1)).bind fun v345 =>
  (Qpick v342 (Go.Value.bool true) v345).bind fun v346 =>
  condK v346 (
    some ((Go.Value.bool false), r344.2)
  ) (
    s13L0 [x0, x1, x2, undef, undef, undef, (Go.Value.bool false), r334.1, r335.1, (Go.Value.int Go.IntKind.i64 0), x0, r334.1, x1, r335.1, r334.1, v336, r335.1, v337, v338, v338, (gv (isB v338 false) x0), r339.1, (gv (isB v338 false) x1), r340.1, v341, v342, v342, (gv (isB v342 false) x0), (gv (isB v342 false) x2), r343.1, (gv (isB v342 false) x1), (gv (isB v342 false) x2), r344.1, v345, v346, undef, undef, undef, undef, undef, undef, undef, undef, undef, undef, undef, undef, undef, undef, undef] [] r344.2
  )
noncomputable def s13 (x0 x1 x2 : Value) (w : World) : Option (Value × World) :=
  (Xcall Tryd.prog (Value.func (Fn.func 17) #[] #[]) #[x0] w).bind fun r334 =>
  (Xcall Tryd.prog (Value.func (Fn.func 25) #[] #[]) #[x1] r334.2).bind fun r335 =>
  (Qlen Tryd.prog #[33] 3 #[r334.1] r335.2).bind fun v336 =>
  (Qlen Tryd.prog #[33] 3 #[r335.1] r335.2).bind fun v337 =>
  (Qbin Tryd.prog Go.BinOp.neq 3 v336 v337).bind fun v338 =>
  (guardX v338 false r335.2 (Xcall Tryd.prog (Value.func (Fn.func 14) #[] #[]) #[(gv (isB v338 false) x0)] r335.2)).bind fun r339 =>
  (guardX v338 false r339.2 (Xcall Tryd.prog (Value.func (Fn.func 26) #[] #[]) #[(gv (isB v338 false) x1)] r339.2)).bind fun r340 =>
  (guardQ v338 false (Qbin Tryd.prog Go.BinOp.neq 3 r339.1 r340.1)).bind fun v341 =>
  (Qpick v338 (Go.Value.bool true) v341).bind fun v342 =>
  (guardX v342 false r340.2 (Xcall Tryd.prog (Value.func (Fn.func 16) #[] #[]) #[(gv (isB v342 false) x0), (gv (isB v342 false) x2)] r340.2)).bind fun r343 =>
  (guardX v342 false r343.2 (Xcall Tryd.prog (Value.func (Fn.func 27) #[] #[]) #[(gv (isB v342 false) x1), (gv (isB v342 false) x2)] r343.2)).bind fun r344 =>
  (guardQ v342 false (Qbin Tryd.prog Go.BinOp.neq 4 r343.1 r344.1)).bind fun v345 =>
  (Qpick v342 (Go.Value.bool true) v345).bind fun v346 =>
  condK v346 (
    some ((Go.Value.bool false), r344.2)
  ) (
    loopR s13B0 s13R0 [(Go.Value.bool false), r334.1, r335.1, (Go.Value.int Go.IntKind.i64 0)] r344.2
  )
theorem s13B0eq (x6 x7 x8 x9 : Value) (w : World) (g : Nat → Value) (d : List Deferred) : evK Tryd.prog 13 none (nav [1, 1, 1, 0, 1, 0, 0] (bodyOf Tryd.f13)) none _ (frm 50 (setL [6, 7, 8, 9] [x6, x7, x8, x9] g) d) w (projK [6, 7, 8, 9]) = s13B0 [x6, x7, x8, x9] w := by kernel_rfl
theorem s13R0x0eq (x6 x7 x8 x9 : Value) (g : Nat → Value) (w : World) : s13K1 (Exit.exit 0) (frm 50 (setL [6, 7, 8, 9] [x6, x7, x8, x9] g) []) w = s13R0 (Exit.exit 0) [x6, x7, x8, x9] w := by kernel_rfl
theorem s13R0ret_eq (x6 x7 x8 x9 : Value) (g : Nat → Value) (w : World) : s13K1 Exit.ret (frm 50 (setL [6, 7, 8, 9] [x6, x7, x8, x9] g) []) w = s13R0 Exit.ret [x6, x7, x8, x9] w := by kernel_rfl
theorem s13R0of : ∀ (e : Exit) (xs : List Value) (w : World) (g : Nat → Value) (y : _), s13R0 e xs w = some y → s13K1 e (frm 50 (setL [6, 7, 8, 9] xs g) []) w = some y := by
  intro e xs w g y h
  unfold s13R0 at h
  split at h
  · exact (s13R0x0eq _ _ _ _ g _).trans h
  · exact (s13R0ret_eq _ _ _ _ g _).trans h
  · cases h
theorem s13L0of {s0 s1 s2 s3 s4 s5 s6 s7 s8 s9 s10 s11 s12 s13 s14 s15 s16 s17 s18 s19 s20 s21 s22 s23 s24 s25 s26 s27 s28 s29 s30 s31 s32 s33 s34 s35 s36 s37 s38 s39 s40 s41 s42 s43 s44 s45 s46 s47 s48 s49 : Value} {w : World} {r : _} (h : loopR s13B0 s13R0 [s6, s7, s8, s9] w = some r) : s13L0 [s0, s1, s2, s3, s4, s5, s6, s7, s8, s9, s10, s11, s12, s13, s14, s15, s16, s17, s18, s19, s20, s21, s22, s23, s24, s25, s26, s27, s28, s29, s30, s31, s32, s33, s34, s35, s36, s37, s38, s39, s40, s41, s42, s43, s44, s45, s46, s47, s48, s49] [] w = some r :=
  loopN_of (B := s13B0) (R := s13R0) (n := 50) (live := [6, 7, 8, 9]) (fun xs w g y hl h => match xs, hl, h with | [x6, x7, x8, x9], _, h => (s13B0eq x6 x7 x8 x9 w g []).trans h) (by kernel_rfl) (s13R0of) (fun i => ([s0, s1, s2, s3, s4, s5, s6, s7, s8, s9, s10, s11, s12, s13, s14, s15, s16, s17, s18, s19, s20, s21, s22, s23, s24, s25, s26, s27, s28, s29, s30, s31, s32, s33, s34, s35, s36, s37, s38, s39, s40, s41, s42, s43, s44, s45, s46, s47, s48, s49] : List Value).getD i undef) (by kernel_rfl) rfl h
theorem s13eq (x0 x1 x2 : Value) (w : World) : evK Tryd.prog 13 none (bodyOf Tryd.f13) none _ { tmps := (([x0, x1, x2] : List Value) ++ List.replicate (50 - 3) undef).toArray, defers := [] } w (leaveK Tryd.prog Tryd.f13) = s13raw x0 x1 x2 w := by kernel_rfl
theorem c13 {x0 x1 x2 : Value} {w : World} {r : Value × World} (h : s13 x0 x1 x2 w = some r) : C Tryd.prog 13 #[x0, x1, x2] w = some r :=
  C_ev follows_all drawLaw (by kernel_rfl) Tryd.func13 (by rfl) ((s13eq x0 x1 x2 w).trans (show s13raw x0 x1 x2 w = some r from (Ev.bind_mono fun (r334 : Value × World) => (Ev.bind_mono fun (r335 : Value × World) => (Ev.bind_mono fun (v336 : Value) => (Ev.bind_mono fun (v337 : Value) => (Ev.bind_mono fun (v338 : Value) => (Ev.bind_mono fun (r339 : Value × World) => (Ev.bind_mono fun (r340 : Value × World) => (Ev.bind_mono fun (v341 : Value) => (Ev.bind_mono fun (v342 : Value) => (Ev.bind_mono fun (r343 : Value × World) => (Ev.bind_mono fun (r344 : Value × World) => (Ev.bind_mono fun (v345 : Value) => (Ev.bind_mono fun (v346 : Value) => (condK_mono id (s13L0of))))))))))))))) h))
theorem e13 {x0 x1 x2 : Value} {w : World} {Q : Value × World → Prop} (h : Brings (s13 x0 x1 x2 w) Q) : Brings (Xcall Tryd.prog (Value.func (Fn.func 13) #[] #[]) #[x0, x1, x2] w) Q :=
  h.call (Xcall_fn Tryd.func13 (by decide +kernel) (by rfl) _ _ _ w) fun _ h => c13 h

/-! (*lychgate/pool.Pool).Free -/
noncomputable def s14 (x0 : Value) (w : World) : Option (Value × World) :=
  (Qbin Tryd.prog Go.BinOp.eql 24 x0 (Go.Value.pointer none)).bind fun v355 =>
  condK v355 (
    some ((Go.Value.int Go.IntKind.i64 0), w)
  ) (
    (Qnil x0).bind fun v356 =>
    (QfieldAddr Tryd.prog 53 v356 1).bind fun v357 =>
    (Qload Tryd.prog 3 v357 w.drew).bind fun v358 =>
    (Qnil x0).bind fun v359 =>
    (QfieldAddr Tryd.prog 53 v359 0).bind fun v360 =>
    (Qload Tryd.prog 3 v360 w.drew).bind fun v361 =>
    (Qbin Tryd.prog Go.BinOp.sub 3 v358 v361).bind fun v362 =>
    (Qbin Tryd.prog Go.BinOp.add 3 v362 (Go.Value.int Go.IntKind.i64 1)).bind fun v363 =>
    (Xcall Tryd.prog (Value.func (Fn.func 17) #[] #[]) #[x0] w.drew).bind fun r364 =>
    (Qlen Tryd.prog #[33] 3 #[r364.1] r364.2).bind fun v365 =>
    (Qbin Tryd.prog Go.BinOp.sub 3 v363 v365).bind fun v366 =>
    chkK ((Qload Tryd.prog 3 v357 w.drew = some v358 ∧ Qload Tryd.prog 3 v357 r364.2 = some v358) ∧ ((Qload Tryd.prog 3 v360 w.drew = some v361 ∧ Qload Tryd.prog 3 v360 r364.2 = some v361) ∧ True)) (
      some (v366, r364.2)
    )
  )
theorem s14eq (x0 : Value) (w : World) : evK Tryd.prog 14 none (bodyOf Tryd.f14) none _ { tmps := (([x0] : List Value) ++ List.replicate (19 - 1) undef).toArray, defers := [] } w (leaveK Tryd.prog Tryd.f14) = s14 x0 w := by kernel_rfl
theorem c14 {x0 : Value} {w : World} {r : Value × World} (h : s14 x0 w = some r) : C Tryd.prog 14 #[x0] w = some r :=
  C_ev follows_all drawLaw (by kernel_rfl) Tryd.func14 (by rfl) ((s14eq x0 w).trans h)
theorem e14 {x0 : Value} {w : World} {Q : Value × World → Prop} (h : Brings (s14 x0 w) Q) : Brings (Xcall Tryd.prog (Value.func (Fn.func 14) #[] #[]) #[x0] w) Q :=
  h.call (Xcall_fn Tryd.func14 (by decide +kernel) (by rfl) _ _ _ w) fun _ h => c14 h

/-! (*lychgate/pool.Pool).Take -/
noncomputable def s15 (x0 x1 : Value) (w : World) : Option (Value × World) :=
  (Qconv Tryd.prog 22 3 x1).bind fun v367 =>
  (Xcall Tryd.prog (Value.func (Fn.func 28) #[] #[]) #[x0, v367, (Go.Value.int Go.IntKind.i64 1)] w).bind fun r368 =>
  (Qext r368.1 0).bind fun v369 =>
  (Qext r368.1 1).bind fun v370 =>
  some ((Value.tuple #[v369, v370]), r368.2)
theorem s15eq (x0 x1 : Value) (w : World) : evK Tryd.prog 15 none (bodyOf Tryd.f15) none _ { tmps := (([x0, x1] : List Value) ++ List.replicate (12 - 2) undef).toArray, defers := [] } w (leaveK Tryd.prog Tryd.f15) = s15 x0 x1 w := by kernel_rfl
theorem c15 {x0 x1 : Value} {w : World} {r : Value × World} (h : s15 x0 x1 w = some r) : C Tryd.prog 15 #[x0, x1] w = some r :=
  C_ev follows_all drawLaw (by kernel_rfl) Tryd.func15 (by rfl) ((s15eq x0 x1 w).trans h)
theorem e15 {x0 x1 : Value} {w : World} {Q : Value × World → Prop} (h : Brings (s15 x0 x1 w) Q) : Brings (Xcall Tryd.prog (Value.func (Fn.func 15) #[] #[]) #[x0, x1] w) Q :=
  h.call (Xcall_fn Tryd.func15 (by decide +kernel) (by rfl) _ _ _ w) fun _ h => c15 h

/-! (*lychgate/pool.Pool).Has -/
noncomputable def s16 (x0 x1 : Value) (w : World) : Option (Value × World) :=
  (Qbin Tryd.prog Go.BinOp.neq 24 x0 (Go.Value.pointer none)).bind fun v371 =>
  (guardQ v371 true (Qbin Tryd.prog Go.BinOp.quo 22 (gv (isB v371 true) x1) (Go.Value.int Go.IntKind.u16 64))).bind fun v372 =>
  (guardQ v371 true (Qnil (gv (isB v371 true) x0))).bind fun v373 =>
  (guardQ v371 true (QfieldAddr Tryd.prog 53 v373 2)).bind fun v374 =>
  (guardQ v371 true (QindexAddr Tryd.prog 51 v374 v372 w)).bind fun v375 =>
  (guardQ v371 true (Qload Tryd.prog 50 v375 w)).bind fun v376 =>
  (guardQ v371 true (Qbin Tryd.prog Go.BinOp.rem 22 (gv (isB v371 true) x1) (Go.Value.int Go.IntKind.u16 64))).bind fun v377 =>
  (guardQ v371 true (Qbin Tryd.prog Go.BinOp.shr 50 v376 v377)).bind fun v378 =>
  (guardQ v371 true (Qbin Tryd.prog Go.BinOp.and 50 v378 (Go.Value.int Go.IntKind.u64 1))).bind fun v379 =>
  (guardQ v371 true (Qbin Tryd.prog Go.BinOp.eql 50 v379 (Go.Value.int Go.IntKind.u64 1))).bind fun v380 =>
  (Qpick v371 v380 (Go.Value.bool false)).bind fun v381 =>
  some (v381, w)
theorem s16eq (x0 x1 : Value) (w : World) : evK Tryd.prog 16 none (bodyOf Tryd.f16) none _ { tmps := (([x0, x1] : List Value) ++ List.replicate (21 - 2) undef).toArray, defers := [] } w (leaveK Tryd.prog Tryd.f16) = s16 x0 x1 w := by kernel_rfl
theorem c16 {x0 x1 : Value} {w : World} {r : Value × World} (h : s16 x0 x1 w = some r) : C Tryd.prog 16 #[x0, x1] w = some r :=
  C_ev follows_all drawLaw (by kernel_rfl) Tryd.func16 (by rfl) ((s16eq x0 x1 w).trans h)
theorem e16 {x0 x1 : Value} {w : World} {Q : Value × World → Prop} (h : Brings (s16 x0 x1 w) Q) : Brings (Xcall Tryd.prog (Value.func (Fn.func 16) #[] #[]) #[x0, x1] w) Q :=
  h.call (Xcall_fn Tryd.func16 (by decide +kernel) (by rfl) _ _ _ w) fun _ h => c16 h

/-! (*lychgate/pool.Pool).Used -/
noncomputable def s17K0 : Exit → Act → World → Option (Value × World) := seqK (fun a w => evK Tryd.prog 17 none (nav [1, 1, 1, 1] (bodyOf Tryd.f17)) none _ a w (leaveK Tryd.prog Tryd.f17)) (leaveK Tryd.prog Tryd.f17)
noncomputable def s17K1 : Exit → Act → World → Option (Value × World) := blockK 0 s17K0
noncomputable def s17L0 (s : List Value) (d : List Deferred) (w : World) : Option (Value × World) := loopN Tryd.prog 17 none (nav [1, 1, 1, 0, 1, 0, 0] (bodyOf Tryd.f17)) s17K1 s d w
noncomputable def s17K2 : Exit → Act → World → Option (Exit × List Value × World) := seqK (fun a w => evK Tryd.prog 17 none (nav [1, 1, 1, 0, 1, 0, 0, 1, 1, 1] (bodyOf Tryd.f17)) none _ a w (projK [3, 11, 12])) (projK [3, 11, 12])
noncomputable def s17K3 : Exit → Act → World → Option (Exit × List Value × World) := blockK 1 s17K2
noncomputable def s17K4 : Exit → Act → World → Option (Exit × List Value × World) := blockK 2 s17K3
noncomputable def s17L1 (s : List Value) (d : List Deferred) (w : World) : Option (Exit × List Value × World) := loopN Tryd.prog 17 none (nav [1, 1, 1, 0, 1, 0, 0, 1, 1, 0, 0, 1, 0, 0] (bodyOf Tryd.f17)) s17K4 s d w
noncomputable def s17B1 : List Value → World → Option (Exit × List Value × World)
  | [x3, x4, x5, x11, x12], w =>
    (Qbin Tryd.prog Go.BinOp.neq 50 x5 (Go.Value.int Go.IntKind.u64 0)).bind fun v388 =>
    condK v388 (
      (Qbin Tryd.prog Go.BinOp.mul 3 (Go.Value.int Go.IntKind.i64 64) x4).bind fun v389 =>
      (Xcall Tryd.prog (Value.func (Fn.func 29) #[] #[]) #[x5] w).bind fun r390 =>
      (Qbin Tryd.prog Go.BinOp.add 3 v389 r390.1).bind fun v391 =>
      (Qconv Tryd.prog 3 22 v391).bind fun v392 =>
      (XbuildSlice Tryd.prog 33 1 #[(0, v392)] r390.2).bind fun r393 =>
      (Xbi Tryd.prog Go.Builtin.append #[33, 33] 33 #[x3, r393.1] r393.2).bind fun r394 =>
      (Qbin Tryd.prog Go.BinOp.sub 50 x5 (Go.Value.int Go.IntKind.u64 1)).bind fun v395 =>
      (Qbin Tryd.prog Go.BinOp.and 50 x5 v395).bind fun v396 =>
      some (Exit.normal, [r394.1, x4, v396, x11, x12], r394.2)
    ) (
      some ((Exit.exit 2), [x3, x4, x5, x11, x12], w)
    )
  | _, _ => none
noncomputable def s17R1 : Exit → List Value → World → Option (Exit × List Value × World)
  | (Exit.exit 2), [x3, _, _, x11, x12], w =>
    (Qbin Tryd.prog Go.BinOp.add 3 x12 (Go.Value.int Go.IntKind.i64 1)).bind fun v397 =>
    some (Exit.normal, [x3, x11, v397], w)
  | _, _, _ => none
noncomputable def s17B0raw (g : Nat → Value) (d : List Deferred) : List Value → World → Option (Exit × List Value × World)
  | [x3, x11, x12], w =>
    (Qbin Tryd.prog Go.BinOp.lss 3 x12 (Go.Value.int Go.IntKind.i64 1024)).bind fun v386 =>
    condK v386 (
      (Qindex Tryd.prog 51 x11 x12 w).bind fun v387 =>
      s17L1 [(g 0), (g 1), (g 2), x3, x12, v387, (g 6), (g 7), (g 8), (g 9), (g 10), x11, x12, v386, x12, v387, (g 16), (g 17), (g 18), (g 19), (g 20), (g 21), (g 22), (g 23), (g 24), (g 25), (g 26), (g 27), (g 28), (g 29), (g 30), (g 31), (g 32)] d w
    ) (
      some ((Exit.exit 0), [x3, x11, x12], w)
    )
  | _, _ => none
noncomputable def s17B0 : List Value → World → Option (Exit × List Value × World)
  | [x3, x11, x12], w =>
    (Qbin Tryd.prog Go.BinOp.lss 3 x12 (Go.Value.int Go.IntKind.i64 1024)).bind fun v386 =>
    condK v386 (
      (Qindex Tryd.prog 51 x11 x12 w).bind fun v387 =>
      loopR s17B1 s17R1 [x3, x12, v387, x11, x12] w
    ) (
      some ((Exit.exit 0), [x3, x11, x12], w)
    )
  | _, _ => none
noncomputable def s17R0 : Exit → List Value → World → Option (Value × World)
  | (Exit.exit 0), [x3, _, _], w =>
    some (x3, w)
  | _, _, _ => none
noncomputable def s17raw (x0 : Value) (w : World) : Option (Value × World) :=
  (Qbin Tryd.prog Go.BinOp.eql 24 x0 (Go.Value.pointer none)).bind fun v382 =>
  condK v382 (
    some ((Go.Value.slice none 0 0), w)
  ) (
    (Qnil x0).bind fun v383 =>
    (QfieldAddr Tryd.prog 53 v383 2).bind fun v384 =>
    (Qload Tryd.prog 51 v384 w).bind fun v385 =>
    s17L0 [x0, undef, (Go.Value.slice none 0 0), (Go.Value.slice none 0 0), undef, undef, x0, v382, x0, v383, v384, v385, (Go.Value.int Go.IntKind.i64 0), undef, undef, undef, undef, undef, undef, undef, undef, undef, undef, undef, undef, undef, undef, undef, undef, undef, undef, undef, undef] [] w
  )
noncomputable def s17 (x0 : Value) (w : World) : Option (Value × World) :=
  (Qbin Tryd.prog Go.BinOp.eql 24 x0 (Go.Value.pointer none)).bind fun v382 =>
  condK v382 (
    some ((Go.Value.slice none 0 0), w)
  ) (
    (Qnil x0).bind fun v383 =>
    (QfieldAddr Tryd.prog 53 v383 2).bind fun v384 =>
    (Qload Tryd.prog 51 v384 w).bind fun v385 =>
    loopR s17B0 s17R0 [(Go.Value.slice none 0 0), v385, (Go.Value.int Go.IntKind.i64 0)] w
  )
theorem s17B1eq (x3 x4 x5 x11 x12 : Value) (w : World) (g : Nat → Value) (d : List Deferred) : evK Tryd.prog 17 none (nav [1, 1, 1, 0, 1, 0, 0, 1, 1, 0, 0, 1, 0, 0] (bodyOf Tryd.f17)) none _ (frm 33 (setL [3, 4, 5, 11, 12] [x3, x4, x5, x11, x12] g) d) w (projK [3, 4, 5, 11, 12]) = s17B1 [x3, x4, x5, x11, x12] w := by kernel_rfl
theorem s17R1x2eq (x3 x4 x5 x11 x12 : Value) (g : Nat → Value) (w : World) : s17K4 (Exit.exit 2) (frm 33 (setL [3, 4, 5, 11, 12] [x3, x4, x5, x11, x12] g) []) w = s17R1 (Exit.exit 2) [x3, x4, x5, x11, x12] w := by kernel_rfl
theorem s17R1of : ∀ (e : Exit) (xs : List Value) (w : World) (g : Nat → Value) (y : _), s17R1 e xs w = some y → s17K4 e (frm 33 (setL [3, 4, 5, 11, 12] xs g) []) w = some y := by
  intro e xs w g y h
  unfold s17R1 at h
  split at h
  · exact (s17R1x2eq _ _ _ _ _ g _).trans h
  · cases h
theorem s17L1of {s0 s1 s2 s3 s4 s5 s6 s7 s8 s9 s10 s11 s12 s13 s14 s15 s16 s17 s18 s19 s20 s21 s22 s23 s24 s25 s26 s27 s28 s29 s30 s31 s32 : Value} {w : World} {r : _} (h : loopR s17B1 s17R1 [s3, s4, s5, s11, s12] w = some r) : s17L1 [s0, s1, s2, s3, s4, s5, s6, s7, s8, s9, s10, s11, s12, s13, s14, s15, s16, s17, s18, s19, s20, s21, s22, s23, s24, s25, s26, s27, s28, s29, s30, s31, s32] [] w = some r :=
  loopN_of (B := s17B1) (R := s17R1) (n := 33) (live := [3, 4, 5, 11, 12]) (fun xs w g y hl h => match xs, hl, h with | [x3, x4, x5, x11, x12], _, h => (s17B1eq x3 x4 x5 x11 x12 w g []).trans h) (by kernel_rfl) (s17R1of) (fun i => ([s0, s1, s2, s3, s4, s5, s6, s7, s8, s9, s10, s11, s12, s13, s14, s15, s16, s17, s18, s19, s20, s21, s22, s23, s24, s25, s26, s27, s28, s29, s30, s31, s32] : List Value).getD i undef) (by kernel_rfl) rfl h
theorem s17B0eq (x3 x11 x12 : Value) (w : World) (g : Nat → Value) (d : List Deferred) : evK Tryd.prog 17 none (nav [1, 1, 1, 0, 1, 0, 0] (bodyOf Tryd.f17)) none _ (frm 33 (setL [3, 11, 12] [x3, x11, x12] g) d) w (projK [3, 11, 12]) = s17B0raw g d [x3, x11, x12] w := by kernel_rfl
theorem s17R0x0eq (x3 x11 x12 : Value) (g : Nat → Value) (w : World) : s17K1 (Exit.exit 0) (frm 33 (setL [3, 11, 12] [x3, x11, x12] g) []) w = s17R0 (Exit.exit 0) [x3, x11, x12] w := by kernel_rfl
theorem s17R0of : ∀ (e : Exit) (xs : List Value) (w : World) (g : Nat → Value) (y : _), s17R0 e xs w = some y → s17K1 e (frm 33 (setL [3, 11, 12] xs g) []) w = some y := by
  intro e xs w g y h
  unfold s17R0 at h
  split at h
  · exact (s17R0x0eq _ _ _ g _).trans h
  · cases h
theorem s17L0of {s0 s1 s2 s3 s4 s5 s6 s7 s8 s9 s10 s11 s12 s13 s14 s15 s16 s17 s18 s19 s20 s21 s22 s23 s24 s25 s26 s27 s28 s29 s30 s31 s32 : Value} {w : World} {r : _} (h : loopR s17B0 s17R0 [s3, s11, s12] w = some r) : s17L0 [s0, s1, s2, s3, s4, s5, s6, s7, s8, s9, s10, s11, s12, s13, s14, s15, s16, s17, s18, s19, s20, s21, s22, s23, s24, s25, s26, s27, s28, s29, s30, s31, s32] [] w = some r :=
  loopN_of (B := s17B0) (R := s17R0) (n := 33) (live := [3, 11, 12]) (fun xs w g y hl h => match xs, hl, h with | [x3, x11, x12], _, h => (s17B0eq x3 x11 x12 w g []).trans (show s17B0raw g [] [x3, x11, x12] w = some y from (Ev.bind_mono fun (v386 : Value) => (condK_mono (Ev.bind_mono fun (v387 : Value) => (s17L1of)) id)) h)) (by kernel_rfl) (s17R0of) (fun i => ([s0, s1, s2, s3, s4, s5, s6, s7, s8, s9, s10, s11, s12, s13, s14, s15, s16, s17, s18, s19, s20, s21, s22, s23, s24, s25, s26, s27, s28, s29, s30, s31, s32] : List Value).getD i undef) (by kernel_rfl) rfl h
theorem s17eq (x0 : Value) (w : World) : evK Tryd.prog 17 none (bodyOf Tryd.f17) none _ { tmps := (([x0] : List Value) ++ List.replicate (33 - 1) undef).toArray, defers := [] } w (leaveK Tryd.prog Tryd.f17) = s17raw x0 w := by kernel_rfl
theorem c17 {x0 : Value} {w : World} {r : Value × World} (h : s17 x0 w = some r) : C Tryd.prog 17 #[x0] w = some r :=
  C_ev follows_all drawLaw (by kernel_rfl) Tryd.func17 (by rfl) ((s17eq x0 w).trans (show s17raw x0 w = some r from (Ev.bind_mono fun (v382 : Value) => (condK_mono id (Ev.bind_mono fun (v383 : Value) => (Ev.bind_mono fun (v384 : Value) => (Ev.bind_mono fun (v385 : Value) => (s17L0of)))))) h))
theorem e17 {x0 : Value} {w : World} {Q : Value × World → Prop} (h : Brings (s17 x0 w) Q) : Brings (Xcall Tryd.prog (Value.func (Fn.func 17) #[] #[]) #[x0] w) Q :=
  h.call (Xcall_fn Tryd.func17 (by decide +kernel) (by rfl) _ _ _ w) fun _ h => c17 h

/-! (*lychgate/pool.Pool).Give -/
noncomputable def s18 (x0 x1 : Value) (w : World) : Option (Value × World) :=
  (Qbin Tryd.prog Go.BinOp.eql 24 x0 (Go.Value.pointer none)).bind fun v398 =>
  condK v398 (
    some ((Go.Value.int Go.IntKind.i64 1), w)
  ) (
    (Xcall Tryd.prog (Value.func (Fn.func 16) #[] #[]) #[x0, x1] w).bind fun r399 =>
    (Qun Go.UnOp.not r399.1).bind fun v400 =>
    condK v400 (
      some ((Go.Value.int Go.IntKind.i64 11), r399.2)
    ) (
      (Qbin Tryd.prog Go.BinOp.quo 22 x1 (Go.Value.int Go.IntKind.u16 64)).bind fun v401 =>
      (Qnil x0).bind fun v402 =>
      (QfieldAddr Tryd.prog 53 v402 2).bind fun v403 =>
      (QindexAddr Tryd.prog 51 v403 v401 r399.2.drew).bind fun v404 =>
      (Qload Tryd.prog 50 v404 r399.2.drew).bind fun v405 =>
      (Qbin Tryd.prog Go.BinOp.rem 22 x1 (Go.Value.int Go.IntKind.u16 64)).bind fun v406 =>
      (Qbin Tryd.prog Go.BinOp.shl 50 (Go.Value.int Go.IntKind.u64 1) v406).bind fun v407 =>
      (Qbin Tryd.prog Go.BinOp.andNot 50 v405 v407).bind fun v408 =>
      (Qnil x0).bind fun v409 =>
      (QfieldAddr Tryd.prog 53 v409 2).bind fun v410 =>
      (QindexAddr Tryd.prog 51 v410 v401 r399.2.drew).bind fun v411 =>
      (Xstore Tryd.prog 50 v411 v408 r399.2.drew).bind fun r412 =>
      chkK True (
        some ((Go.Value.int Go.IntKind.i64 0), r412.2)
      )
    )
  )
theorem s18eq (x0 x1 : Value) (w : World) : evK Tryd.prog 18 none (bodyOf Tryd.f18) none _ { tmps := (([x0, x1] : List Value) ++ List.replicate (27 - 2) undef).toArray, defers := [] } w (leaveK Tryd.prog Tryd.f18) = s18 x0 x1 w := by kernel_rfl
theorem c18 {x0 x1 : Value} {w : World} {r : Value × World} (h : s18 x0 x1 w = some r) : C Tryd.prog 18 #[x0, x1] w = some r :=
  C_ev follows_all drawLaw (by kernel_rfl) Tryd.func18 (by rfl) ((s18eq x0 x1 w).trans h)
theorem e18 {x0 x1 : Value} {w : World} {Q : Value × World → Prop} (h : Brings (s18 x0 x1 w) Q) : Brings (Xcall Tryd.prog (Value.func (Fn.func 18) #[] #[]) #[x0, x1] w) Q :=
  h.call (Xcall_fn Tryd.func18 (by decide +kernel) (by rfl) _ _ _ w) fun _ h => c18 h

/-! (*lychgate/pool.Pool).Pair -/
noncomputable def s19 (x0 x1 : Value) (w : World) : Option (Value × World) :=
  (Qconv Tryd.prog 22 3 x1).bind fun v413 =>
  (Xcall Tryd.prog (Value.func (Fn.func 28) #[] #[]) #[x0, v413, (Go.Value.int Go.IntKind.i64 2)] w).bind fun r414 =>
  (Qext r414.1 0).bind fun v415 =>
  (Qext r414.1 1).bind fun v416 =>
  some ((Value.tuple #[v415, v416]), r414.2)
theorem s19eq (x0 x1 : Value) (w : World) : evK Tryd.prog 19 none (bodyOf Tryd.f19) none _ { tmps := (([x0, x1] : List Value) ++ List.replicate (12 - 2) undef).toArray, defers := [] } w (leaveK Tryd.prog Tryd.f19) = s19 x0 x1 w := by kernel_rfl
theorem c19 {x0 x1 : Value} {w : World} {r : Value × World} (h : s19 x0 x1 w = some r) : C Tryd.prog 19 #[x0, x1] w = some r :=
  C_ev follows_all drawLaw (by kernel_rfl) Tryd.func19 (by rfl) ((s19eq x0 x1 w).trans h)
theorem e19 {x0 x1 : Value} {w : World} {Q : Value × World → Prop} (h : Brings (s19 x0 x1 w) Q) : Brings (Xcall Tryd.prog (Value.func (Fn.func 19) #[] #[]) #[x0, x1] w) Q :=
  h.call (Xcall_fn Tryd.func19 (by decide +kernel) (by rfl) _ _ _ w) fun _ h => c19 h

/-! (*lychgate/pool.Pool).Fork -/
noncomputable def s20 (x0 : Value) (w : World) : Option (Value × World) :=
  (Qbin Tryd.prog Go.BinOp.eql 24 x0 (Go.Value.pointer none)).bind fun v417 =>
  condK v417 (
    some ((Go.Value.pointer none), w)
  ) (
    (Qnil x0).bind fun v418 =>
    (Qload Tryd.prog 53 v418 w).bind fun v419 =>
    (Xalloc Tryd.prog 53 w).bind fun r420 =>
    (Xstore Tryd.prog 53 r420.1 v419 r420.2).bind fun r421 =>
    some (r420.1, r421.2)
  )
theorem s20eq (x0 : Value) (w : World) : evK Tryd.prog 20 none (bodyOf Tryd.f20) none _ { tmps := (([x0] : List Value) ++ List.replicate (9 - 1) undef).toArray, defers := [] } w (leaveK Tryd.prog Tryd.f20) = s20 x0 w := by kernel_rfl
theorem c20 {x0 : Value} {w : World} {r : Value × World} (h : s20 x0 w = some r) : C Tryd.prog 20 #[x0] w = some r :=
  C_ev follows_all drawLaw (by kernel_rfl) Tryd.func20 (by rfl) ((s20eq x0 w).trans h)
theorem e20 {x0 : Value} {w : World} {Q : Value × World → Prop} (h : Brings (s20 x0 w) Q) : Brings (Xcall Tryd.prog (Value.func (Fn.func 20) #[] #[]) #[x0] w) Q :=
  h.call (Xcall_fn Tryd.func20 (by decide +kernel) (by rfl) _ _ _ w) fun _ h => c20 h

/-! (*lychgate/lychgateref08.Pool).Fork -/
noncomputable def s21 (x0 : Value) (w : World) : Option (Value × World) :=
  (Qbin Tryd.prog Go.BinOp.eql 25 x0 (Go.Value.pointer none)).bind fun v422 =>
  condK v422 (
    some ((Go.Value.pointer none), w)
  ) (
    (Qnil x0).bind fun v423 =>
    (QfieldAddr Tryd.prog 58 v423 0).bind fun v424 =>
    (Qload Tryd.prog 3 v424 w.drew).bind fun v425 =>
    (Qnil x0).bind fun v426 =>
    (QfieldAddr Tryd.prog 58 v426 1).bind fun v427 =>
    (Qload Tryd.prog 3 v427 w.drew).bind fun v428 =>
    (XbuildSlice Tryd.prog 56 0 #[] w.drew).bind fun r429 =>
    (Qnil x0).bind fun v430 =>
    (QfieldAddr Tryd.prog 58 v430 2).bind fun v431 =>
    (Qload Tryd.prog 56 v431 r429.2).bind fun v432 =>
    (Xbi Tryd.prog Go.Builtin.append #[56, 56] 56 #[r429.1, v432] r429.2).bind fun r433 =>
    (Qbuild Tryd.prog 58 #[(0, v425), (1, v428), (2, r433.1)] r433.2).bind fun v434 =>
    (Xbox Tryd.prog 58 v434 r433.2).bind fun r435 =>
    chkK ((Qload Tryd.prog 3 v424 w.drew = some v425 ∧ Qload Tryd.prog 3 v424 r429.2 = some v425) ∧ ((Qload Tryd.prog 3 v424 r429.2 = some v425 ∧ Qload Tryd.prog 3 v424 r433.2 = some v425) ∧ ((Qload Tryd.prog 3 v427 w.drew = some v428 ∧ Qload Tryd.prog 3 v427 r429.2 = some v428) ∧ ((Qload Tryd.prog 3 v427 r429.2 = some v428 ∧ Qload Tryd.prog 3 v427 r433.2 = some v428) ∧ ((Qload Tryd.prog 56 v431 w.drew = some v432 ∧ Qload Tryd.prog 56 v431 r429.2 = some v432) ∧ True))))) (
      some (r435.1, r435.2)
    )
  )
theorem s21eq (x0 : Value) (w : World) : evK Tryd.prog 21 none (bodyOf Tryd.f21) none _ { tmps := (([x0] : List Value) ++ List.replicate (21 - 1) undef).toArray, defers := [] } w (leaveK Tryd.prog Tryd.f21) = s21 x0 w := by kernel_rfl
theorem c21 {x0 : Value} {w : World} {r : Value × World} (h : s21 x0 w = some r) : C Tryd.prog 21 #[x0] w = some r :=
  C_ev follows_all drawLaw (by kernel_rfl) Tryd.func21 (by rfl) ((s21eq x0 w).trans h)
theorem e21 {x0 : Value} {w : World} {Q : Value × World → Prop} (h : Brings (s21 x0 w) Q) : Brings (Xcall Tryd.prog (Value.func (Fn.func 21) #[] #[]) #[x0] w) Q :=
  h.call (Xcall_fn Tryd.func21 (by decide +kernel) (by rfl) _ _ _ w) fun _ h => c21 h

/-! lychgate/lychgatelaw08.do -/
noncomputable def s22 (x0 x1 x2 : Value) (w : World) : Option (Value × World) :=
  (Xbox Tryd.prog 29 x2 w).bind fun r436 =>
  (QfieldAddr Tryd.prog 29 r436.1 0).bind fun v437 =>
  (Qload Tryd.prog 3 v437 r436.2).bind fun v438 =>
  (Qbin Tryd.prog Go.BinOp.eql 3 v438 (Go.Value.int Go.IntKind.i64 0)).bind fun v439 =>
  condK v439 (
    (QfieldAddr Tryd.prog 29 r436.1 1).bind fun v440 =>
    (Qload Tryd.prog 22 v440 r436.2).bind fun v441 =>
    (Xcall Tryd.prog (Value.func (Fn.func 15) #[] #[]) #[x0, v441] r436.2).bind fun r442 =>
    (Qext r442.1 0).bind fun v443 =>
    (Qext r442.1 1).bind fun v444 =>
    (QfieldAddr Tryd.prog 29 r436.1 1).bind fun v445 =>
    (Qload Tryd.prog 22 v445 r442.2).bind fun v446 =>
    (Xcall Tryd.prog (Value.func (Fn.func 30) #[] #[]) #[x1, v446] r442.2).bind fun r447 =>
    (Qext r447.1 0).bind fun v448 =>
    (Qext r447.1 1).bind fun v449 =>
    (Qbin Tryd.prog Go.BinOp.eql 22 v443 v448).bind fun v450 =>
    (guardQ v450 true (Qbin Tryd.prog Go.BinOp.eql 35 (gv (isB v450 true) v444) (gv (isB v450 true) v449))).bind fun v451 =>
    (Qpick v450 v451 (Go.Value.bool false)).bind fun v452 =>
    some (v452, r447.2)
  ) (
    (Qbin Tryd.prog Go.BinOp.eql 3 v438 (Go.Value.int Go.IntKind.i64 1)).bind fun v453 =>
    condK v453 (
      (QfieldAddr Tryd.prog 29 r436.1 1).bind fun v454 =>
      (Qload Tryd.prog 22 v454 r436.2).bind fun v455 =>
      (Xcall Tryd.prog (Value.func (Fn.func 19) #[] #[]) #[x0, v455] r436.2).bind fun r456 =>
      (Qext r456.1 0).bind fun v457 =>
      (Qext r456.1 1).bind fun v458 =>
      (QfieldAddr Tryd.prog 29 r436.1 1).bind fun v459 =>
      (Qload Tryd.prog 22 v459 r456.2).bind fun v460 =>
      (Xcall Tryd.prog (Value.func (Fn.func 31) #[] #[]) #[x1, v460] r456.2).bind fun r461 =>
      (Qext r461.1 0).bind fun v462 =>
      (Qext r461.1 1).bind fun v463 =>
      (Qbin Tryd.prog Go.BinOp.eql 22 v457 v462).bind fun v464 =>
      (guardQ v464 true (Qbin Tryd.prog Go.BinOp.eql 35 (gv (isB v464 true) v458) (gv (isB v464 true) v463))).bind fun v465 =>
      (Qpick v464 v465 (Go.Value.bool false)).bind fun v466 =>
      some (v466, r461.2)
    ) (
      (Qbin Tryd.prog Go.BinOp.eql 3 v438 (Go.Value.int Go.IntKind.i64 2)).bind fun v467 =>
      condK v467 (
        (QfieldAddr Tryd.prog 29 r436.1 1).bind fun v468 =>
        (Qload Tryd.prog 22 v468 r436.2.drew).bind fun v469 =>
        (Xcall Tryd.prog (Value.func (Fn.func 18) #[] #[]) #[x0, v469] r436.2.drew).bind fun r470 =>
        (QfieldAddr Tryd.prog 29 r436.1 1).bind fun v471 =>
        (Qload Tryd.prog 22 v471 r470.2).bind fun v472 =>
        (Xcall Tryd.prog (Value.func (Fn.func 32) #[] #[]) #[x1, v472] r470.2).bind fun r473 =>
        (Qbin Tryd.prog Go.BinOp.eql 35 r470.1 r473.1).bind fun v474 =>
        chkK ((Qload Tryd.prog 22 v471 r436.2.drew = some v472 ∧ Qload Tryd.prog 22 v471 r470.2 = some v472) ∧ True) (
          some (v474, r473.2)
        )
      ) (
        some ((Go.Value.bool true), r436.2)
      )
    )
  )
theorem s22eq (x0 x1 x2 : Value) (w : World) : evK Tryd.prog 22 none (bodyOf Tryd.f22) none _ { tmps := (([x0, x1, x2] : List Value) ++ List.replicate (76 - 3) undef).toArray, defers := [] } w (leaveK Tryd.prog Tryd.f22) = s22 x0 x1 x2 w := by kernel_rfl
theorem c22 {x0 x1 x2 : Value} {w : World} {r : Value × World} (h : s22 x0 x1 x2 w = some r) : C Tryd.prog 22 #[x0, x1, x2] w = some r :=
  C_ev follows_all drawLaw (by kernel_rfl) Tryd.func22 (by rfl) ((s22eq x0 x1 x2 w).trans h)
theorem e22 {x0 x1 x2 : Value} {w : World} {Q : Value × World → Prop} (h : Brings (s22 x0 x1 x2 w) Q) : Brings (Xcall Tryd.prog (Value.func (Fn.func 22) #[] #[]) #[x0, x1, x2] w) Q :=
  h.call (Xcall_fn Tryd.func22 (by decide +kernel) (by rfl) _ _ _ w) fun _ h => c22 h

/-! lychgate/pool.New -/
noncomputable def s23 (x0 x1 : Value) (w : World) : Option (Value × World) :=
  (Qbin Tryd.prog Go.BinOp.eql 22 x0 (Go.Value.int Go.IntKind.u16 0)).bind fun v475 =>
  (guardQ v475 false (Qbin Tryd.prog Go.BinOp.gtr 22 (gv (isB v475 false) x0) (gv (isB v475 false) x1))).bind fun v476 =>
  (Qpick v475 (Go.Value.bool true) v476).bind fun v477 =>
  condK v477 (
    some ((Go.Value.pointer none), w)
  ) (
    (Qconv Tryd.prog 22 3 x0).bind fun v478 =>
    (Qconv Tryd.prog 22 3 x1).bind fun v479 =>
    (Qbuild Tryd.prog 53 #[(0, v478), (1, v479)] w).bind fun v480 =>
    (Xbox Tryd.prog 53 v480 w).bind fun r481 =>
    some (r481.1, r481.2)
  )
theorem s23eq (x0 x1 : Value) (w : World) : evK Tryd.prog 23 none (bodyOf Tryd.f23) none _ { tmps := (([x0, x1] : List Value) ++ List.replicate (18 - 2) undef).toArray, defers := [] } w (leaveK Tryd.prog Tryd.f23) = s23 x0 x1 w := by kernel_rfl
theorem c23 {x0 x1 : Value} {w : World} {r : Value × World} (h : s23 x0 x1 w = some r) : C Tryd.prog 23 #[x0, x1] w = some r :=
  C_ev follows_all drawLaw (by kernel_rfl) Tryd.func23 (by rfl) ((s23eq x0 x1 w).trans h)
theorem e23 {x0 x1 : Value} {w : World} {Q : Value × World → Prop} (h : Brings (s23 x0 x1 w) Q) : Brings (Xcall Tryd.prog (Value.func (Fn.func 23) #[] #[]) #[x0, x1] w) Q :=
  h.call (Xcall_fn Tryd.func23 (by decide +kernel) (by rfl) _ _ _ w) fun _ h => c23 h

/-! lychgate/lychgateref08.New -/
noncomputable def s24 (x0 x1 : Value) (w : World) : Option (Value × World) :=
  (Qbin Tryd.prog Go.BinOp.eql 22 x0 (Go.Value.int Go.IntKind.u16 0)).bind fun v482 =>
  (guardQ v482 false (Qbin Tryd.prog Go.BinOp.gtr 22 (gv (isB v482 false) x0) (gv (isB v482 false) x1))).bind fun v483 =>
  (Qpick v482 (Go.Value.bool true) v483).bind fun v484 =>
  condK v484 (
    some ((Go.Value.pointer none), w)
  ) (
    (Qconv Tryd.prog 22 3 x0).bind fun v485 =>
    (Qconv Tryd.prog 22 3 x1).bind fun v486 =>
    (Qbuild Tryd.prog 58 #[(0, v485), (1, v486)] w).bind fun v487 =>
    (Xbox Tryd.prog 58 v487 w).bind fun r488 =>
    some (r488.1, r488.2)
  )
theorem s24eq (x0 x1 : Value) (w : World) : evK Tryd.prog 24 none (bodyOf Tryd.f24) none _ { tmps := (([x0, x1] : List Value) ++ List.replicate (18 - 2) undef).toArray, defers := [] } w (leaveK Tryd.prog Tryd.f24) = s24 x0 x1 w := by kernel_rfl
theorem c24 {x0 x1 : Value} {w : World} {r : Value × World} (h : s24 x0 x1 w = some r) : C Tryd.prog 24 #[x0, x1] w = some r :=
  C_ev follows_all drawLaw (by kernel_rfl) Tryd.func24 (by rfl) ((s24eq x0 x1 w).trans h)
theorem e24 {x0 x1 : Value} {w : World} {Q : Value × World → Prop} (h : Brings (s24 x0 x1 w) Q) : Brings (Xcall Tryd.prog (Value.func (Fn.func 24) #[] #[]) #[x0, x1] w) Q :=
  h.call (Xcall_fn Tryd.func24 (by decide +kernel) (by rfl) _ _ _ w) fun _ h => c24 h

/-! (*lychgate/lychgateref08.Pool).Used -/
noncomputable def s25K0 : Exit → Act → World → Option (Value × World) := seqK (fun a w => evK Tryd.prog 25 none (nav [1, 1, 1] (bodyOf Tryd.f25)) none _ a w (leaveK Tryd.prog Tryd.f25)) (leaveK Tryd.prog Tryd.f25)
noncomputable def s25K1 : Exit → Act → World → Option (Value × World) := blockK 0 s25K0
noncomputable def s25L0 (s : List Value) (d : List Deferred) (w : World) : Option (Value × World) := loopN Tryd.prog 25 none (nav [1, 1, 0, 1, 0, 0] (bodyOf Tryd.f25)) s25K1 s d w
noncomputable def s25B0 : List Value → World → Option (Exit × List Value × World)
  | [x0, x3, x4], w =>
    (Qbin Tryd.prog Go.BinOp.neq 25 x0 (Go.Value.pointer none)).bind fun v489 =>
    (guardQ v489 true (Qnil (gv (isB v489 true) x0))).bind fun v490 =>
    (guardQ v489 true (QfieldAddr Tryd.prog 58 v490 2)).bind fun v491 =>
    (guardQ v489 true (Qload Tryd.prog 56 v491 w)).bind fun v492 =>
    (guardQ v489 true (Qlen Tryd.prog #[56] 3 #[v492] w)).bind fun v493 =>
    (guardQ v489 true (Qbin Tryd.prog Go.BinOp.lss 3 (gv (isB v489 true) x4) v493)).bind fun v494 =>
    (Qpick v489 v494 (Go.Value.bool false)).bind fun v495 =>
    condK v495 (
      (Qnil x0).bind fun v496 =>
      (QfieldAddr Tryd.prog 58 v496 2).bind fun v497 =>
      (Qload Tryd.prog 56 v497 w).bind fun v498 =>
      (QindexAddr Tryd.prog 56 v498 x4 w).bind fun v499 =>
      (Qload Tryd.prog 3 v499 w).bind fun v500 =>
      (Qconv Tryd.prog 3 22 v500).bind fun v501 =>
      (XbuildSlice Tryd.prog 33 1 #[(0, v501)] w).bind fun r502 =>
      (Xbi Tryd.prog Go.Builtin.append #[33, 33] 33 #[x3, r502.1] r502.2).bind fun r503 =>
      (Qbin Tryd.prog Go.BinOp.add 3 x4 (Go.Value.int Go.IntKind.i64 1)).bind fun v504 =>
      some (Exit.normal, [x0, r503.1, v504], r503.2)
    ) (
      some ((Exit.exit 0), [x0, x3, x4], w)
    )
  | _, _ => none
noncomputable def s25R0 : Exit → List Value → World → Option (Value × World)
  | (Exit.exit 0), [_, x3, _], w =>
    some (x3, w)
  | _, _, _ => none
noncomputable def s25raw (x0 : Value) (w : World) : Option (Value × World) :=
  s25L0 [x0, undef, (Go.Value.slice none 0 0), (Go.Value.slice none 0 0), (Go.Value.int Go.IntKind.i64 0), undef, undef, undef, undef, undef, undef, undef, undef, undef, undef, undef, undef, undef, undef, undef, undef, undef, undef, undef, undef, undef, undef, undef, undef, undef] [] w
noncomputable def s25 (x0 : Value) (w : World) : Option (Value × World) :=
  loopR s25B0 s25R0 [x0, (Go.Value.slice none 0 0), (Go.Value.int Go.IntKind.i64 0)] w
theorem s25B0eq (x0 x3 x4 : Value) (w : World) (g : Nat → Value) (d : List Deferred) : evK Tryd.prog 25 none (nav [1, 1, 0, 1, 0, 0] (bodyOf Tryd.f25)) none _ (frm 30 (setL [0, 3, 4] [x0, x3, x4] g) d) w (projK [0, 3, 4]) = s25B0 [x0, x3, x4] w := by kernel_rfl
theorem s25R0x0eq (x0 x3 x4 : Value) (g : Nat → Value) (w : World) : s25K1 (Exit.exit 0) (frm 30 (setL [0, 3, 4] [x0, x3, x4] g) []) w = s25R0 (Exit.exit 0) [x0, x3, x4] w := by kernel_rfl
theorem s25R0of : ∀ (e : Exit) (xs : List Value) (w : World) (g : Nat → Value) (y : _), s25R0 e xs w = some y → s25K1 e (frm 30 (setL [0, 3, 4] xs g) []) w = some y := by
  intro e xs w g y h
  unfold s25R0 at h
  split at h
  · exact (s25R0x0eq _ _ _ g _).trans h
  · cases h
theorem s25L0of {s0 s1 s2 s3 s4 s5 s6 s7 s8 s9 s10 s11 s12 s13 s14 s15 s16 s17 s18 s19 s20 s21 s22 s23 s24 s25 s26 s27 s28 s29 : Value} {w : World} {r : _} (h : loopR s25B0 s25R0 [s0, s3, s4] w = some r) : s25L0 [s0, s1, s2, s3, s4, s5, s6, s7, s8, s9, s10, s11, s12, s13, s14, s15, s16, s17, s18, s19, s20, s21, s22, s23, s24, s25, s26, s27, s28, s29] [] w = some r :=
  loopN_of (B := s25B0) (R := s25R0) (n := 30) (live := [0, 3, 4]) (fun xs w g y hl h => match xs, hl, h with | [x0, x3, x4], _, h => (s25B0eq x0 x3 x4 w g []).trans h) (by kernel_rfl) (s25R0of) (fun i => ([s0, s1, s2, s3, s4, s5, s6, s7, s8, s9, s10, s11, s12, s13, s14, s15, s16, s17, s18, s19, s20, s21, s22, s23, s24, s25, s26, s27, s28, s29] : List Value).getD i undef) (by kernel_rfl) rfl h
theorem s25eq (x0 : Value) (w : World) : evK Tryd.prog 25 none (bodyOf Tryd.f25) none _ { tmps := (([x0] : List Value) ++ List.replicate (30 - 1) undef).toArray, defers := [] } w (leaveK Tryd.prog Tryd.f25) = s25raw x0 w := by kernel_rfl
theorem c25 {x0 : Value} {w : World} {r : Value × World} (h : s25 x0 w = some r) : C Tryd.prog 25 #[x0] w = some r :=
  C_ev follows_all drawLaw (by kernel_rfl) Tryd.func25 (by rfl) ((s25eq x0 w).trans (show s25raw x0 w = some r from (s25L0of) h))
theorem e25 {x0 : Value} {w : World} {Q : Value × World → Prop} (h : Brings (s25 x0 w) Q) : Brings (Xcall Tryd.prog (Value.func (Fn.func 25) #[] #[]) #[x0] w) Q :=
  h.call (Xcall_fn Tryd.func25 (by decide +kernel) (by rfl) _ _ _ w) fun _ h => c25 h

/-! (*lychgate/lychgateref08.Pool).Free -/
noncomputable def s26 (x0 : Value) (w : World) : Option (Value × World) :=
  (Qbin Tryd.prog Go.BinOp.eql 25 x0 (Go.Value.pointer none)).bind fun v505 =>
  condK v505 (
    some ((Go.Value.int Go.IntKind.i64 0), w)
  ) (
    (Qnil x0).bind fun v506 =>
    (QfieldAddr Tryd.prog 58 v506 1).bind fun v507 =>
    (Qload Tryd.prog 3 v507 w.drew).bind fun v508 =>
    (Qnil x0).bind fun v509 =>
    (QfieldAddr Tryd.prog 58 v509 0).bind fun v510 =>
    (Qload Tryd.prog 3 v510 w.drew).bind fun v511 =>
    (Qbin Tryd.prog Go.BinOp.sub 3 v508 v511).bind fun v512 =>
    (Qbin Tryd.prog Go.BinOp.add 3 v512 (Go.Value.int Go.IntKind.i64 1)).bind fun v513 =>
    (Qnil x0).bind fun v514 =>
    (QfieldAddr Tryd.prog 58 v514 2).bind fun v515 =>
    (Qload Tryd.prog 56 v515 w.drew).bind fun v516 =>
    (Qlen Tryd.prog #[56] 3 #[v516] w.drew).bind fun v517 =>
    (Qbin Tryd.prog Go.BinOp.sub 3 v513 v517).bind fun v518 =>
    chkK True (
      some (v518, w.drew)
    )
  )
theorem s26eq (x0 : Value) (w : World) : evK Tryd.prog 26 none (bodyOf Tryd.f26) none _ { tmps := (([x0] : List Value) ++ List.replicate (21 - 1) undef).toArray, defers := [] } w (leaveK Tryd.prog Tryd.f26) = s26 x0 w := by kernel_rfl
theorem c26 {x0 : Value} {w : World} {r : Value × World} (h : s26 x0 w = some r) : C Tryd.prog 26 #[x0] w = some r :=
  C_ev follows_all drawLaw (by kernel_rfl) Tryd.func26 (by rfl) ((s26eq x0 w).trans h)
theorem e26 {x0 : Value} {w : World} {Q : Value × World → Prop} (h : Brings (s26 x0 w) Q) : Brings (Xcall Tryd.prog (Value.func (Fn.func 26) #[] #[]) #[x0] w) Q :=
  h.call (Xcall_fn Tryd.func26 (by decide +kernel) (by rfl) _ _ _ w) fun _ h => c26 h

/-! (*lychgate/lychgateref08.Pool).Has -/
noncomputable def s27K0 : Exit → Act → World → Option (Value × World) := seqK (fun a w => evK Tryd.prog 27 none (nav [1, 1] (bodyOf Tryd.f27)) none _ a w (leaveK Tryd.prog Tryd.f27)) (leaveK Tryd.prog Tryd.f27)
noncomputable def s27K1 : Exit → Act → World → Option (Value × World) := blockK 0 s27K0
noncomputable def s27L0 (s : List Value) (d : List Deferred) (w : World) : Option (Value × World) := loopN Tryd.prog 27 none (nav [1, 0, 1, 0, 0] (bodyOf Tryd.f27)) s27K1 s d w
noncomputable def s27B0 : List Value → World → Option (Exit × List Value × World)
  | [x0, x1, x4, x5], w =>
    (Qbin Tryd.prog Go.BinOp.neq 25 x0 (Go.Value.pointer none)).bind fun v519 =>
    (guardQ v519 true (Qnil (gv (isB v519 true) x0))).bind fun v520 =>
    (guardQ v519 true (QfieldAddr Tryd.prog 58 v520 2)).bind fun v521 =>
    (guardQ v519 true (Qload Tryd.prog 56 v521 w)).bind fun v522 =>
    (guardQ v519 true (Qlen Tryd.prog #[56] 3 #[v522] w)).bind fun v523 =>
    (guardQ v519 true (Qbin Tryd.prog Go.BinOp.lss 3 (gv (isB v519 true) x5) v523)).bind fun v524 =>
    (Qpick v519 v524 (Go.Value.bool false)).bind fun v525 =>
    condK v525 (
      (Qnil x0).bind fun v526 =>
      (QfieldAddr Tryd.prog 58 v526 2).bind fun v527 =>
      (Qload Tryd.prog 56 v527 w).bind fun v528 =>
      (QindexAddr Tryd.prog 56 v528 x5 w).bind fun v529 =>
      (Qload Tryd.prog 3 v529 w).bind fun v530 =>
      (Qconv Tryd.prog 22 3 x1).bind fun v531 =>
      (Qbin Tryd.prog Go.BinOp.eql 3 v530 v531).bind fun v532 =>
      condK v532 (
        some (Exit.ret, [x0, x1, (Go.Value.bool true), x5], w)
      ) (
        (Qbin Tryd.prog Go.BinOp.add 3 x5 (Go.Value.int Go.IntKind.i64 1)).bind fun v533 =>
        some (Exit.normal, [x0, x1, x4, v533], w)
      )
    ) (
      some ((Exit.exit 0), [x0, x1, x4, x5], w)
    )
  | _, _ => none
noncomputable def s27R0 : Exit → List Value → World → Option (Value × World)
  | (Exit.exit 0), [_, _, _, _], w =>
    some ((Go.Value.bool false), w)
  | Exit.ret, [_, _, x4, _], w =>
    some (x4, w)
  | _, _, _ => none
noncomputable def s27raw (x0 x1 : Value) (w : World) : Option (Value × World) :=
  s27L0 [x0, x1, undef, undef, (Go.Value.bool false), (Go.Value.int Go.IntKind.i64 0), undef, undef, undef, undef, undef, undef, undef, undef, undef, undef, undef, undef, undef, undef, undef, undef, undef, undef, undef, undef, undef, undef, undef] [] w
noncomputable def s27 (x0 x1 : Value) (w : World) : Option (Value × World) :=
  loopR s27B0 s27R0 [x0, x1, (Go.Value.bool false), (Go.Value.int Go.IntKind.i64 0)] w
theorem s27B0eq (x0 x1 x4 x5 : Value) (w : World) (g : Nat → Value) (d : List Deferred) : evK Tryd.prog 27 none (nav [1, 0, 1, 0, 0] (bodyOf Tryd.f27)) none _ (frm 29 (setL [0, 1, 4, 5] [x0, x1, x4, x5] g) d) w (projK [0, 1, 4, 5]) = s27B0 [x0, x1, x4, x5] w := by kernel_rfl
theorem s27R0x0eq (x0 x1 x4 x5 : Value) (g : Nat → Value) (w : World) : s27K1 (Exit.exit 0) (frm 29 (setL [0, 1, 4, 5] [x0, x1, x4, x5] g) []) w = s27R0 (Exit.exit 0) [x0, x1, x4, x5] w := by kernel_rfl
theorem s27R0ret_eq (x0 x1 x4 x5 : Value) (g : Nat → Value) (w : World) : s27K1 Exit.ret (frm 29 (setL [0, 1, 4, 5] [x0, x1, x4, x5] g) []) w = s27R0 Exit.ret [x0, x1, x4, x5] w := by kernel_rfl
theorem s27R0of : ∀ (e : Exit) (xs : List Value) (w : World) (g : Nat → Value) (y : _), s27R0 e xs w = some y → s27K1 e (frm 29 (setL [0, 1, 4, 5] xs g) []) w = some y := by
  intro e xs w g y h
  unfold s27R0 at h
  split at h
  · exact (s27R0x0eq _ _ _ _ g _).trans h
  · exact (s27R0ret_eq _ _ _ _ g _).trans h
  · cases h
theorem s27L0of {s0 s1 s2 s3 s4 s5 s6 s7 s8 s9 s10 s11 s12 s13 s14 s15 s16 s17 s18 s19 s20 s21 s22 s23 s24 s25 s26 s27 s28 : Value} {w : World} {r : _} (h : loopR s27B0 s27R0 [s0, s1, s4, s5] w = some r) : s27L0 [s0, s1, s2, s3, s4, s5, s6, s7, s8, s9, s10, s11, s12, s13, s14, s15, s16, s17, s18, s19, s20, s21, s22, s23, s24, s25, s26, s27, s28] [] w = some r :=
  loopN_of (B := s27B0) (R := s27R0) (n := 29) (live := [0, 1, 4, 5]) (fun xs w g y hl h => match xs, hl, h with | [x0, x1, x4, x5], _, h => (s27B0eq x0 x1 x4 x5 w g []).trans h) (by kernel_rfl) (s27R0of) (fun i => ([s0, s1, s2, s3, s4, s5, s6, s7, s8, s9, s10, s11, s12, s13, s14, s15, s16, s17, s18, s19, s20, s21, s22, s23, s24, s25, s26, s27, s28] : List Value).getD i undef) (by kernel_rfl) rfl h
theorem s27eq (x0 x1 : Value) (w : World) : evK Tryd.prog 27 none (bodyOf Tryd.f27) none _ { tmps := (([x0, x1] : List Value) ++ List.replicate (29 - 2) undef).toArray, defers := [] } w (leaveK Tryd.prog Tryd.f27) = s27raw x0 x1 w := by kernel_rfl
theorem c27 {x0 x1 : Value} {w : World} {r : Value × World} (h : s27 x0 x1 w = some r) : C Tryd.prog 27 #[x0, x1] w = some r :=
  C_ev follows_all drawLaw (by kernel_rfl) Tryd.func27 (by rfl) ((s27eq x0 x1 w).trans (show s27raw x0 x1 w = some r from (s27L0of) h))
theorem e27 {x0 x1 : Value} {w : World} {Q : Value × World → Prop} (h : Brings (s27 x0 x1 w) Q) : Brings (Xcall Tryd.prog (Value.func (Fn.func 27) #[] #[]) #[x0, x1] w) Q :=
  h.call (Xcall_fn Tryd.func27 (by decide +kernel) (by rfl) _ _ _ w) fun _ h => c27 h

/-! (*lychgate/pool.Pool).take -/
noncomputable def s28K0 : Exit → Act → World → Option (Value × World) := seqK (fun a w => evK Tryd.prog 28 none (nav [1, 1, 1, 1] (bodyOf Tryd.f28)) none _ a w (leaveK Tryd.prog Tryd.f28)) (leaveK Tryd.prog Tryd.f28)
noncomputable def s28J0 (s : List Value) (d : List Deferred) (w : World) : Option (Value × World) := s28K0 .normal ⟨s.toArray, d⟩ w
noncomputable def s28K1 : Exit → Act → World → Option (Value × World) := blockK 0 s28K0
noncomputable def s28K2 : Exit → Act → World → Option (Value × World) := seqK (fun a w => evK Tryd.prog 28 none (nav [1, 1, 1, 1, 1, 1] (bodyOf Tryd.f28)) none _ a w (leaveK Tryd.prog Tryd.f28)) (leaveK Tryd.prog Tryd.f28)
noncomputable def s28K3 : Exit → Act → World → Option (Value × World) := blockK 2 s28K2
noncomputable def s28L2 (s : List Value) (d : List Deferred) (w : World) : Option (Value × World) := loopN Tryd.prog 28 none (nav [1, 1, 1, 1, 1, 0, 1, 0, 0] (bodyOf Tryd.f28)) s28K3 s d w
noncomputable def s28B2 : List Value → World → Option (Exit × List Value × World)
  | [x0, x2, x8, x10], w =>
    (Qload Tryd.prog 3 x8 w).bind fun v548 =>
    (Qbin Tryd.prog Go.BinOp.add 3 v548 x2).bind fun v549 =>
    (Qbin Tryd.prog Go.BinOp.lss 3 x10 v549).bind fun v550 =>
    condK v550 (
      (Qbin Tryd.prog Go.BinOp.quo 3 x10 (Go.Value.int Go.IntKind.i64 64)).bind fun v551 =>
      (Qnil x0).bind fun v552 =>
      (QfieldAddr Tryd.prog 53 v552 2).bind fun v553 =>
      (QindexAddr Tryd.prog 51 v553 v551 w.drew).bind fun v554 =>
      (Qload Tryd.prog 50 v554 w.drew).bind fun v555 =>
      (Qbin Tryd.prog Go.BinOp.rem 3 x10 (Go.Value.int Go.IntKind.i64 64)).bind fun v556 =>
      (Qbin Tryd.prog Go.BinOp.shl 50 (Go.Value.int Go.IntKind.u64 1) v556).bind fun v557 =>
      (Qbin Tryd.prog Go.BinOp.or 50 v555 v557).bind fun v558 =>
      (Qnil x0).bind fun v559 =>
      (QfieldAddr Tryd.prog 53 v559 2).bind fun v560 =>
      (QindexAddr Tryd.prog 51 v560 v551 w.drew).bind fun v561 =>
      (Xstore Tryd.prog 50 v561 v558 w.drew).bind fun r562 =>
      chkK True (
        (Qbin Tryd.prog Go.BinOp.add 3 x10 (Go.Value.int Go.IntKind.i64 1)).bind fun v563 =>
        some (Exit.normal, [x0, x2, x8, v563], r562.2)
      )
    ) (
      some ((Exit.exit 2), [x0, x2, x8, x10], w)
    )
  | _, _ => none
noncomputable def s28R2 (d : List Deferred) : Exit → List Value → World → Option (Value × World)
  | (Exit.exit 2), [_, _, x8, _], w =>
    (Qload Tryd.prog 3 x8 w).bind fun v564 =>
    (Qconv Tryd.prog 3 22 v564).bind fun v565 =>
    (takeAll Tryd.prog d w).bind fun w_ => some ((Value.tuple #[v565, (Go.Value.int Go.IntKind.i64 0)]), w_)
  | _, _, _ => none
noncomputable def s28M0raw (s0 s1 s2 s3 s4 s5 s6 s7 s8 s9 _s10 s11 s12 s13 s14 s15 s16 s17 s18 s19 s20 s21 s22 s23 s24 s25 s26 s27 s28 _s29 _s30 _s31 s32 s33 s34 s35 s36 s37 s38 s39 s40 s41 s42 s43 s44 s45 s46 s47 s48 s49 s50 s51 s52 s53 s54 : Value) (d : List Deferred) (w : World) : Option (Value × World) :=
  (Qload Tryd.prog 3 s8 w).bind fun v543 =>
  (Qbin Tryd.prog Go.BinOp.eql 3 v543 (Go.Value.int Go.IntKind.i64 0)).bind fun v544 =>
  condK v544 (
    (takeAll Tryd.prog d w).bind fun w_ => some ((Value.tuple #[(Go.Value.int Go.IntKind.u16 0), (Go.Value.int Go.IntKind.i64 9)]), w_)
  ) (
    (Qload Tryd.prog 3 s8 w).bind fun v545 =>
    s28L2 [s0, s1, s2, s3, s4, s5, s6, s7, s8, s9, v545, s11, s12, s13, s14, s15, s16, s17, s18, s19, s20, s21, s22, s23, s24, s25, s26, s27, s28, v543, v544, v545, s32, s33, s34, s35, s36, s37, s38, s39, s40, s41, s42, s43, s44, s45, s46, s47, s48, s49, s50, s51, s52, s53, s54] d w
  )
noncomputable def s28M0 (s0 s2 s8 : Value) (d : List Deferred) (w : World) : Option (Value × World) :=
  (Qload Tryd.prog 3 s8 w).bind fun v543 =>
  (Qbin Tryd.prog Go.BinOp.eql 3 v543 (Go.Value.int Go.IntKind.i64 0)).bind fun v544 =>
  condK v544 (
    (takeAll Tryd.prog d w).bind fun w_ => some ((Value.tuple #[(Go.Value.int Go.IntKind.u16 0), (Go.Value.int Go.IntKind.i64 9)]), w_)
  ) (
    (Qload Tryd.prog 3 s8 w).bind fun v545 =>
    loopR s28B2 (s28R2 d) [s0, s2, s8, v545] w
  )
noncomputable def s28G1R (s0 s2 s8 : Value) (d : List Deferred) (w : World) : Exit → Option (Value × World)
  | Exit.normal =>
    s28M0 s0 s2 s8 d w
  | (Exit.exit 0) =>
    s28M0 s0 s2 s8 d w
  | _ => none
noncomputable def s28G1Rnrmraw (s0 s1 s2 s3 s4 s5 s6 s7 s8 s9 s10 s11 s12 s13 s14 s15 s16 s17 s18 s19 s20 s21 s22 s23 s24 s25 s26 s27 s28 s29 s30 s31 s32 s33 s34 s35 s36 s37 s38 s39 s40 s41 s42 s43 s44 s45 s46 s47 s48 s49 s50 s51 s52 s53 s54 : Value) (d : List Deferred) (w : World) : Option (Value × World) :=
  s28J0 [s0, s1, s2, s3, s4, s5, s6, s7, s8, s9, s10, s11, s12, s13, s14, s15, s16, s17, s18, s19, s20, s21, s22, s23, s24, s25, s26, s27, s28, s29, s30, s31, s32, s33, s34, s35, s36, s37, s38, s39, s40, s41, s42, s43, s44, s45, s46, s47, s48, s49, s50, s51, s52, s53, s54] d w
noncomputable def s28G1Rx0raw (s0 s1 s2 s3 s4 s5 s6 s7 s8 s9 s10 s11 s12 s13 s14 s15 s16 s17 s18 s19 s20 s21 s22 s23 s24 s25 s26 s27 s28 s29 s30 s31 s32 s33 s34 s35 s36 s37 s38 s39 s40 s41 s42 s43 s44 s45 s46 s47 s48 s49 s50 s51 s52 s53 s54 : Value) (d : List Deferred) (w : World) : Option (Value × World) :=
  s28J0 [s0, s1, s2, s3, s4, s5, s6, s7, s8, s9, s10, s11, s12, s13, s14, s15, s16, s17, s18, s19, s20, s21, s22, s23, s24, s25, s26, s27, s28, s29, s30, s31, s32, s33, s34, s35, s36, s37, s38, s39, s40, s41, s42, s43, s44, s45, s46, s47, s48, s49, s50, s51, s52, s53, s54] d w
noncomputable def s28G1Q (l : Nat) (s8 s27 : Value) (w : World) : Option (Value × World) :=
  begK Tryd.prog l w fun w546 =>
  (Xstore Tryd.prog 3 s8 s27 w546).bind fun r547 =>
  endR Tryd.prog l (some (Code.exit 0)) r547.2
noncomputable def s28raw (x0 x1 x2 : Value) (w : World) : Option (Value × World) :=
  (Qbin Tryd.prog Go.BinOp.eql 24 x0 (Go.Value.pointer none)).bind fun v534 =>
  condK v534 (
    some ((Value.tuple #[(Go.Value.int Go.IntKind.u16 0), (Go.Value.int Go.IntKind.i64 1)]), w)
  ) (
    (Xalloc Tryd.prog 3 w).bind fun r535 =>
    (Xstore Tryd.prog 3 r535.1 (Go.Value.int Go.IntKind.i64 0) r535.2).bind fun r536 =>
    (Qbin Tryd.prog Go.BinOp.rem 3 x1 x2).bind fun v537 =>
    (Qbin Tryd.prog Go.BinOp.eql 3 v537 (Go.Value.int Go.IntKind.i64 0)).bind fun v538 =>
    (guardX v538 true r536.2 (Xcall Tryd.prog (Value.func (Fn.func 33) #[] #[]) #[(gv (isB v538 true) x0), (gv (isB v538 true) x1), (gv (isB v538 true) x2)] r536.2)).bind fun r539 =>
    (Qpick v538 r539.1 (Go.Value.bool false)).bind fun v540 =>
    condK v540 (
      (Xstore Tryd.prog 3 r535.1 x1 r539.2).bind fun r541 =>
      s28J0 [x0, x1, x2, undef, undef, undef, (Go.Value.int Go.IntKind.u16 0), (Go.Value.int Go.IntKind.i64 0), r535.1, undef, undef, x0, v534, x1, x2, v537, v538, v538, (gv (isB v538 true) x0), (gv (isB v538 true) x1), (gv (isB v538 true) x2), r539.1, v540, x1, undef, undef, undef, undef, undef, undef, undef, undef, undef, undef, undef, undef, undef, undef, undef, undef, undef, undef, undef, undef, undef, undef, undef, undef, undef, undef, undef, undef, undef, undef, undef] [] r541.2
    ) (
      (Xcall Tryd.prog (Value.func (Fn.func 34) #[] #[]) #[x0, x2] r539.2).bind fun r542 =>
      (evRange Tryd.prog 28 none r542.1 #[27] (nav [1, 1, 1, 0, 1, 1, 1, 0, 0] (bodyOf Tryd.f28)) (nav [1, 1, 1, 0, 1, 1, 1, 0, 1] (bodyOf Tryd.f28)) ⟨[x0, x1, x2, undef, undef, undef, (Go.Value.int Go.IntKind.u16 0), (Go.Value.int Go.IntKind.i64 0), r535.1, undef, undef, x0, v534, x1, x2, v537, v538, v538, (gv (isB v538 true) x0), (gv (isB v538 true) x1), (gv (isB v538 true) x2), r539.1, v540, undef, x0, x2, r542.1, undef, undef, undef, undef, undef, undef, undef, undef, undef, undef, undef, undef, undef, undef, undef, undef, undef, undef, undef, undef, undef, undef, undef, undef, undef, undef, undef, undef].toArray, []⟩ r542.2).bind fun x => s28K1 x.1 x.2.1 x.2.2
    )
  )
noncomputable def s28 (x0 x1 x2 : Value) (w : World) : Option (Value × World) :=
  (Qbin Tryd.prog Go.BinOp.eql 24 x0 (Go.Value.pointer none)).bind fun v534 =>
  condK v534 (
    some ((Value.tuple #[(Go.Value.int Go.IntKind.u16 0), (Go.Value.int Go.IntKind.i64 1)]), w)
  ) (
    (Xalloc Tryd.prog 3 w).bind fun r535 =>
    (Xstore Tryd.prog 3 r535.1 (Go.Value.int Go.IntKind.i64 0) r535.2).bind fun r536 =>
    (Qbin Tryd.prog Go.BinOp.rem 3 x1 x2).bind fun v537 =>
    (Qbin Tryd.prog Go.BinOp.eql 3 v537 (Go.Value.int Go.IntKind.i64 0)).bind fun v538 =>
    (guardX v538 true r536.2 (Xcall Tryd.prog (Value.func (Fn.func 33) #[] #[]) #[(gv (isB v538 true) x0), (gv (isB v538 true) x1), (gv (isB v538 true) x2)] r536.2)).bind fun r539 =>
    (Qpick v538 r539.1 (Go.Value.bool false)).bind fun v540 =>
    condK v540 (
      (Xstore Tryd.prog 3 r535.1 x1 r539.2).bind fun r541 =>
      s28M0 x0 x2 r535.1 [] r541.2
    ) (
      (Xcall Tryd.prog (Value.func (Fn.func 34) #[] #[]) #[x0, x2] r539.2).bind fun r542 =>
      (evRange Tryd.prog 28 none r542.1 #[27] (nav [1, 1, 1, 0, 1, 1, 1, 0, 0] (bodyOf Tryd.f28)) (nav [1, 1, 1, 0, 1, 1, 1, 0, 1] (bodyOf Tryd.f28)) ⟨[x0, x1, x2, undef, undef, undef, (Go.Value.int Go.IntKind.u16 0), (Go.Value.int Go.IntKind.i64 0), r535.1, undef, undef, x0, v534, x1, x2, v537, v538, v538, (gv (isB v538 true) x0), (gv (isB v538 true) x1), (gv (isB v538 true) x2), r539.1, v540, undef, x0, x2, r542.1, undef, undef, undef, undef, undef, undef, undef, undef, undef, undef, undef, undef, undef, undef, undef, undef, undef, undef, undef, undef, undef, undef, undef, undef, undef, undef, undef, undef].toArray, []⟩ r542.2).bind fun x => s28G1R x0 x2 r535.1 x.2.1.defers x.2.2 x.1
    )
  )
theorem s28B2eq (x0 x2 x8 x10 : Value) (w : World) (g : Nat → Value) (d : List Deferred) : evK Tryd.prog 28 none (nav [1, 1, 1, 1, 1, 0, 1, 0, 0] (bodyOf Tryd.f28)) none _ (frm 55 (setL [0, 2, 8, 10] [x0, x2, x8, x10] g) d) w (projK [0, 2, 8, 10]) = s28B2 [x0, x2, x8, x10] w := by kernel_rfl
theorem s28R2x2eq (x0 x2 x8 x10 : Value) (g : Nat → Value) (d : List Deferred) (w : World) : s28K3 (Exit.exit 2) (frm 55 (setL [0, 2, 8, 10] [x0, x2, x8, x10] g) d) w = s28R2 d (Exit.exit 2) [x0, x2, x8, x10] w := by kernel_rfl
theorem s28R2of (d : List Deferred) : ∀ (e : Exit) (xs : List Value) (w : World) (g : Nat → Value) (y : _), s28R2 d e xs w = some y → s28K3 e (frm 55 (setL [0, 2, 8, 10] xs g) d) w = some y := by
  intro e xs w g y h
  unfold s28R2 at h
  split at h
  · exact (s28R2x2eq _ _ _ _ g d _).trans h
  · cases h
theorem s28L2of {s0 s1 s2 s3 s4 s5 s6 s7 s8 s9 s10 s11 s12 s13 s14 s15 s16 s17 s18 s19 s20 s21 s22 s23 s24 s25 s26 s27 s28 s29 s30 s31 s32 s33 s34 s35 s36 s37 s38 s39 s40 s41 s42 s43 s44 s45 s46 s47 s48 s49 s50 s51 s52 s53 s54 : Value} {d : List Deferred} {w : World} {r : _} (h : loopR s28B2 (s28R2 d) [s0, s2, s8, s10] w = some r) : s28L2 [s0, s1, s2, s3, s4, s5, s6, s7, s8, s9, s10, s11, s12, s13, s14, s15, s16, s17, s18, s19, s20, s21, s22, s23, s24, s25, s26, s27, s28, s29, s30, s31, s32, s33, s34, s35, s36, s37, s38, s39, s40, s41, s42, s43, s44, s45, s46, s47, s48, s49, s50, s51, s52, s53, s54] d w = some r :=
  loopN_of (B := s28B2) (R := (s28R2 d)) (n := 55) (live := [0, 2, 8, 10]) (fun xs w g y hl h => match xs, hl, h with | [x0, x2, x8, x10], _, h => (s28B2eq x0 x2 x8 x10 w g d).trans h) (by kernel_rfl) (s28R2of d) (fun i => ([s0, s1, s2, s3, s4, s5, s6, s7, s8, s9, s10, s11, s12, s13, s14, s15, s16, s17, s18, s19, s20, s21, s22, s23, s24, s25, s26, s27, s28, s29, s30, s31, s32, s33, s34, s35, s36, s37, s38, s39, s40, s41, s42, s43, s44, s45, s46, s47, s48, s49, s50, s51, s52, s53, s54] : List Value).getD i undef) (by kernel_rfl) rfl h
theorem s28J0eq (s0 s1 s2 s3 s4 s5 s6 s7 s8 s9 s10 s11 s12 s13 s14 s15 s16 s17 s18 s19 s20 s21 s22 s23 s24 s25 s26 s27 s28 s29 s30 s31 s32 s33 s34 s35 s36 s37 s38 s39 s40 s41 s42 s43 s44 s45 s46 s47 s48 s49 s50 s51 s52 s53 s54 : Value) (d : List Deferred) (w : World) : s28J0 [s0, s1, s2, s3, s4, s5, s6, s7, s8, s9, s10, s11, s12, s13, s14, s15, s16, s17, s18, s19, s20, s21, s22, s23, s24, s25, s26, s27, s28, s29, s30, s31, s32, s33, s34, s35, s36, s37, s38, s39, s40, s41, s42, s43, s44, s45, s46, s47, s48, s49, s50, s51, s52, s53, s54] d w = s28M0raw s0 s1 s2 s3 s4 s5 s6 s7 s8 s9 s10 s11 s12 s13 s14 s15 s16 s17 s18 s19 s20 s21 s22 s23 s24 s25 s26 s27 s28 s29 s30 s31 s32 s33 s34 s35 s36 s37 s38 s39 s40 s41 s42 s43 s44 s45 s46 s47 s48 s49 s50 s51 s52 s53 s54 d w := (show s28J0 [s0, s1, s2, s3, s4, s5, s6, s7, s8, s9, s10, s11, s12, s13, s14, s15, s16, s17, s18, s19, s20, s21, s22, s23, s24, s25, s26, s27, s28, s29, s30, s31, s32, s33, s34, s35, s36, s37, s38, s39, s40, s41, s42, s43, s44, s45, s46, s47, s48, s49, s50, s51, s52, s53, s54] d w = evK Tryd.prog 28 none (nav [1, 1, 1, 1] (bodyOf Tryd.f28)) none _ ⟨[s0, s1, s2, s3, s4, s5, s6, s7, s8, s9, s10, s11, s12, s13, s14, s15, s16, s17, s18, s19, s20, s21, s22, s23, s24, s25, s26, s27, s28, s29, s30, s31, s32, s33, s34, s35, s36, s37, s38, s39, s40, s41, s42, s43, s44, s45, s46, s47, s48, s49, s50, s51, s52, s53, s54].toArray, d⟩ w (leaveK Tryd.prog Tryd.f28) from by kernel_rfl).trans (by kernel_rfl)
theorem s28J0of {s0 s1 s2 s3 s4 s5 s6 s7 s8 s9 s10 s11 s12 s13 s14 s15 s16 s17 s18 s19 s20 s21 s22 s23 s24 s25 s26 s27 s28 s29 s30 s31 s32 s33 s34 s35 s36 s37 s38 s39 s40 s41 s42 s43 s44 s45 s46 s47 s48 s49 s50 s51 s52 s53 s54 : Value} {d : List Deferred} {w : World} {r : _} (h : s28M0 s0 s2 s8 d w = some r) : s28J0 [s0, s1, s2, s3, s4, s5, s6, s7, s8, s9, s10, s11, s12, s13, s14, s15, s16, s17, s18, s19, s20, s21, s22, s23, s24, s25, s26, s27, s28, s29, s30, s31, s32, s33, s34, s35, s36, s37, s38, s39, s40, s41, s42, s43, s44, s45, s46, s47, s48, s49, s50, s51, s52, s53, s54] d w = some r :=
  ((s28J0eq s0 s1 s2 s3 s4 s5 s6 s7 s8 s9 s10 s11 s12 s13 s14 s15 s16 s17 s18 s19 s20 s21 s22 s23 s24 s25 s26 s27 s28 s29 s30 s31 s32 s33 s34 s35 s36 s37 s38 s39 s40 s41 s42 s43 s44 s45 s46 s47 s48 s49 s50 s51 s52 s53 s54 d w).trans ((Ev.bind_mono fun (v543 : Value) => (Ev.bind_mono fun (v544 : Value) => (condK_mono id (Ev.bind_mono fun (v545 : Value) => (s28L2of))))) h))
theorem s28G1Rnrmeq (s0 s1 s2 s3 s4 s5 s6 s7 s8 s9 s10 s11 s12 s13 s14 s15 s16 s17 s18 s19 s20 s21 s22 s23 s24 s25 s26 s27 s28 s29 s30 s31 s32 s33 s34 s35 s36 s37 s38 s39 s40 s41 s42 s43 s44 s45 s46 s47 s48 s49 s50 s51 s52 s53 s54 : Value) (d : List Deferred) (w : World) : s28K1 Exit.normal ⟨[s0, s1, s2, s3, s4, s5, s6, s7, s8, s9, s10, s11, s12, s13, s14, s15, s16, s17, s18, s19, s20, s21, s22, s23, s24, s25, s26, s27, s28, s29, s30, s31, s32, s33, s34, s35, s36, s37, s38, s39, s40, s41, s42, s43, s44, s45, s46, s47, s48, s49, s50, s51, s52, s53, s54].toArray, d⟩ w = s28G1Rnrmraw s0 s1 s2 s3 s4 s5 s6 s7 s8 s9 s10 s11 s12 s13 s14 s15 s16 s17 s18 s19 s20 s21 s22 s23 s24 s25 s26 s27 s28 s29 s30 s31 s32 s33 s34 s35 s36 s37 s38 s39 s40 s41 s42 s43 s44 s45 s46 s47 s48 s49 s50 s51 s52 s53 s54 d w := by kernel_rfl
theorem s28G1Rx0eq (s0 s1 s2 s3 s4 s5 s6 s7 s8 s9 s10 s11 s12 s13 s14 s15 s16 s17 s18 s19 s20 s21 s22 s23 s24 s25 s26 s27 s28 s29 s30 s31 s32 s33 s34 s35 s36 s37 s38 s39 s40 s41 s42 s43 s44 s45 s46 s47 s48 s49 s50 s51 s52 s53 s54 : Value) (d : List Deferred) (w : World) : s28K1 (Exit.exit 0) ⟨[s0, s1, s2, s3, s4, s5, s6, s7, s8, s9, s10, s11, s12, s13, s14, s15, s16, s17, s18, s19, s20, s21, s22, s23, s24, s25, s26, s27, s28, s29, s30, s31, s32, s33, s34, s35, s36, s37, s38, s39, s40, s41, s42, s43, s44, s45, s46, s47, s48, s49, s50, s51, s52, s53, s54].toArray, d⟩ w = s28G1Rx0raw s0 s1 s2 s3 s4 s5 s6 s7 s8 s9 s10 s11 s12 s13 s14 s15 s16 s17 s18 s19 s20 s21 s22 s23 s24 s25 s26 s27 s28 s29 s30 s31 s32 s33 s34 s35 s36 s37 s38 s39 s40 s41 s42 s43 s44 s45 s46 s47 s48 s49 s50 s51 s52 s53 s54 d w := by kernel_rfl
theorem s28G1Rof {s0 s1 s2 s3 s4 s5 s6 s7 s8 s9 s10 s11 s12 s13 s14 s15 s16 s17 s18 s19 s20 s21 s22 s23 s24 s25 s26 s27 s28 s29 s30 s31 s32 s33 s34 s35 s36 s37 s38 s39 s40 s41 s42 s43 s44 s45 s46 s47 s48 s49 s50 s51 s52 s53 s54 : Value} {d : List Deferred} {w : World} {e : Exit} {y : _} (h : s28G1R s0 s2 s8 d w e = some y) : s28K1 e ⟨[s0, s1, s2, s3, s4, s5, s6, s7, s8, s9, s10, s11, s12, s13, s14, s15, s16, s17, s18, s19, s20, s21, s22, s23, s24, s25, s26, s27, s28, s29, s30, s31, s32, s33, s34, s35, s36, s37, s38, s39, s40, s41, s42, s43, s44, s45, s46, s47, s48, s49, s50, s51, s52, s53, s54].toArray, d⟩ w = some y := by
  unfold s28G1R at h
  split at h
  · exact (s28G1Rnrmeq _ _ _ _ _ _ _ _ _ _ _ _ _ _ _ _ _ _ _ _ _ _ _ _ _ _ _ _ _ _ _ _ _ _ _ _ _ _ _ _ _ _ _ _ _ _ _ _ _ _ _ _ _ _ _ _ _).trans ((s28J0of) h)
  · exact (s28G1Rx0eq _ _ _ _ _ _ _ _ _ _ _ _ _ _ _ _ _ _ _ _ _ _ _ _ _ _ _ _ _ _ _ _ _ _ _ _ _ _ _ _ _ _ _ _ _ _ _ _ _ _ _ _ _ _ _ _ _).trans ((s28J0of) h)
  · cases h
theorem s28G1Qeq (l : Nat) (s0 s1 s2 s3 s4 s5 s6 s7 s8 s9 s10 s11 s12 s13 s14 s15 s16 s17 s18 s19 s20 s21 s22 s23 s24 s25 s26 s27 s28 s29 s30 s31 s32 s33 s34 s35 s36 s37 s38 s39 s40 s41 s42 s43 s44 s45 s46 s47 s48 s49 s50 s51 s52 s53 s54 : Value) (w : World) : roundE Tryd.prog l 28 [s0, s1, s2, s3, s4, s5, s6, s7, s8, s9, s10, s11, s12, s13, s14, s15, s16, s17, s18, s19, s20, s21, s22, s23, s24, s25, s26, s27, s28, s29, s30, s31, s32, s33, s34, s35, s36, s37, s38, s39, s40, s41, s42, s43, s44, s45, s46, s47, s48, s49, s50, s51, s52, s53, s54].toArray (nav [1, 1, 1, 0, 1, 1, 1, 0, 0] (bodyOf Tryd.f28)) (nav [1, 1, 1, 0, 1, 1, 1, 0, 1] (bodyOf Tryd.f28)) w = s28G1Q l s8 s27 w := by kernel_rfl
theorem s28G1Qof {l : Nat} {s0 s1 s2 s3 s4 s5 s6 s7 s8 s9 s10 s11 s12 s13 s14 s15 s16 s17 s18 s19 s20 s21 s22 s23 s24 s25 s26 s27 s28 s29 s30 s31 s32 s33 s34 s35 s36 s37 s38 s39 s40 s41 s42 s43 s44 s45 s46 s47 s48 s49 s50 s51 s52 s53 s54 : Value} {w : World} {r : Value × World} (h : s28G1Q l s8 s27 w = some r) : Rd Tryd.prog l 28 [s0, s1, s2, s3, s4, s5, s6, s7, s8, s9, s10, s11, s12, s13, s14, s15, s16, s17, s18, s19, s20, s21, s22, s23, s24, s25, s26, s27, s28, s29, s30, s31, s32, s33, s34, s35, s36, s37, s38, s39, s40, s41, s42, s43, s44, s45, s46, s47, s48, s49, s50, s51, s52, s53, s54].toArray (nav [1, 1, 1, 0, 1, 1, 1, 0, 0] (bodyOf Tryd.f28)) (nav [1, 1, 1, 0, 1, 1, 1, 0, 1] (bodyOf Tryd.f28)) w = some r :=
  Rd_ev follows_all drawLaw (by kernel_rfl) ((s28G1Qeq l s0 s1 s2 s3 s4 s5 s6 s7 s8 s9 s10 s11 s12 s13 s14 s15 s16 s17 s18 s19 s20 s21 s22 s23 s24 s25 s26 s27 s28 s29 s30 s31 s32 s33 s34 s35 s36 s37 s38 s39 s40 s41 s42 s43 s44 s45 s46 s47 s48 s49 s50 s51 s52 s53 s54 w).trans h)
theorem s28G1Qb {l : Nat} {s0 s1 s2 s3 s4 s5 s6 s7 s8 s9 s10 s11 s12 s13 s14 s15 s16 s17 s18 s19 s20 s21 s22 s23 s24 s25 s26 s27 s28 s29 s30 s31 s32 s33 s34 s35 s36 s37 s38 s39 s40 s41 s42 s43 s44 s45 s46 s47 s48 s49 s50 s51 s52 s53 s54 : Value} {w : World} {Q : Value × World → Prop} (h : Brings (s28G1Q l s8 s27 w) Q) : Brings (Rd Tryd.prog l 28 [s0, s1, s2, s3, s4, s5, s6, s7, s8, s9, s10, s11, s12, s13, s14, s15, s16, s17, s18, s19, s20, s21, s22, s23, s24, s25, s26, s27, s28, s29, s30, s31, s32, s33, s34, s35, s36, s37, s38, s39, s40, s41, s42, s43, s44, s45, s46, s47, s48, s49, s50, s51, s52, s53, s54].toArray (nav [1, 1, 1, 0, 1, 1, 1, 0, 0] (bodyOf Tryd.f28)) (nav [1, 1, 1, 0, 1, 1, 1, 0, 1] (bodyOf Tryd.f28)) w) Q := h.of_eq fun _ h => s28G1Qof h
theorem s28eq (x0 x1 x2 : Value) (w : World) : evK Tryd.prog 28 none (bodyOf Tryd.f28) none _ { tmps := (([x0, x1, x2] : List Value) ++ List.replicate (55 - 3) undef).toArray, defers := [] } w (leaveK Tryd.prog Tryd.f28) = s28raw x0 x1 x2 w := by kernel_rfl
theorem c28 {x0 x1 x2 : Value} {w : World} {r : Value × World} (h : s28 x0 x1 x2 w = some r) : C Tryd.prog 28 #[x0, x1, x2] w = some r :=
  C_ev follows_all drawLaw (by kernel_rfl) Tryd.func28 (by rfl) ((s28eq x0 x1 x2 w).trans (show s28raw x0 x1 x2 w = some r from (Ev.bind_mono fun (v534 : Value) => (condK_mono id (Ev.bind_mono fun (r535 : Value × World) => (Ev.bind_mono fun (r536 : Value × World) => (Ev.bind_mono fun (v537 : Value) => (Ev.bind_mono fun (v538 : Value) => (Ev.bind_mono fun (r539 : Value × World) => (Ev.bind_mono fun (v540 : Value) => (condK_mono (Ev.bind_mono fun (r541 : Value × World) => (s28J0of)) (Ev.bind_mono fun (r542 : Value × World) => (range_of (R := fun e d w => s28G1R x0 x2 r535.1 d w e) (fun e d w y h => s28G1Rof h)))))))))))) h))
theorem e28 {x0 x1 x2 : Value} {w : World} {Q : Value × World → Prop} (h : Brings (s28 x0 x1 x2 w) Q) : Brings (Xcall Tryd.prog (Value.func (Fn.func 28) #[] #[]) #[x0, x1, x2] w) Q :=
  h.call (Xcall_fn Tryd.func28 (by decide +kernel) (by rfl) _ _ _ w) fun _ h => c28 h

/-! math/bits.TrailingZeros64 -/
noncomputable def s29 (x0 : Value) (w : World) : Option (Value × World) :=
  (Qbin Tryd.prog Go.BinOp.eql 50 x0 (Go.Value.int Go.IntKind.u64 0)).bind fun v566 =>
  condK v566 (
    some ((Go.Value.int Go.IntKind.i64 64), w)
  ) (
    (Qun Go.UnOp.neg x0).bind fun v567 =>
    (Qbin Tryd.prog Go.BinOp.and 50 x0 v567).bind fun v568 =>
    (Qbin Tryd.prog Go.BinOp.mul 50 v568 (Go.Value.int Go.IntKind.u64 285870213051353865)).bind fun v569 =>
    (Qbin Tryd.prog Go.BinOp.shr 50 v569 (Go.Value.int Go.IntKind.u64 58)).bind fun v570 =>
    (QindexAddr Tryd.prog 63 (Value.pointer (some ⟨0, 0, none⟩)) v570 w).bind fun v571 =>
    (Qload Tryd.prog 5 v571 w).bind fun v572 =>
    (Qconv Tryd.prog 5 3 v572).bind fun v573 =>
    some (v573, w)
  )
theorem s29eq (x0 : Value) (w : World) : evK Tryd.prog 29 none (bodyOf Tryd.f29) none _ { tmps := (([x0] : List Value) ++ List.replicate (14 - 1) undef).toArray, defers := [] } w (leaveK Tryd.prog Tryd.f29) = s29 x0 w := by kernel_rfl
theorem c29 {x0 : Value} {w : World} {r : Value × World} (h : s29 x0 w = some r) : C Tryd.prog 29 #[x0] w = some r :=
  C_ev follows_all drawLaw (by kernel_rfl) Tryd.func29 (by rfl) ((s29eq x0 w).trans h)
theorem e29 {x0 : Value} {w : World} {Q : Value × World → Prop} (h : Brings (s29 x0 w) Q) : Brings (Xcall Tryd.prog (Value.func (Fn.func 29) #[] #[]) #[x0] w) Q :=
  h.call (Xcall_fn Tryd.func29 (by decide +kernel) (by rfl) _ _ _ w) fun _ h => c29 h

/-! (*lychgate/lychgateref08.Pool).Take -/
noncomputable def s30K0 : Exit → Act → World → Option (Value × World) := seqK (fun a w => evK Tryd.prog 30 none (nav [1, 1, 1, 1] (bodyOf Tryd.f30)) none _ a w (leaveK Tryd.prog Tryd.f30)) (leaveK Tryd.prog Tryd.f30)
noncomputable def s30J0 (s : List Value) (d : List Deferred) (w : World) : Option (Value × World) := s30K0 .normal ⟨s.toArray, d⟩ w
noncomputable def s30M0 (s0 s6 : Value) (w : World) : Option (Value × World) :=
  (Qbin Tryd.prog Go.BinOp.eql 3 s6 (Go.Value.int Go.IntKind.i64 0)).bind fun v579 =>
  condK v579 (
    some ((Value.tuple #[(Go.Value.int Go.IntKind.u16 0), (Go.Value.int Go.IntKind.i64 9)]), w)
  ) (
    (Xcall Tryd.prog (Value.func (Fn.func 37) #[] #[]) #[s0, s6] w).bind fun r580 =>
    (Qconv Tryd.prog 3 22 s6).bind fun v581 =>
    some ((Value.tuple #[v581, (Go.Value.int Go.IntKind.i64 0)]), r580.2)
  )
noncomputable def s30raw (x0 x1 : Value) (w : World) : Option (Value × World) :=
  (Qbin Tryd.prog Go.BinOp.eql 25 x0 (Go.Value.pointer none)).bind fun v574 =>
  condK v574 (
    some ((Value.tuple #[(Go.Value.int Go.IntKind.u16 0), (Go.Value.int Go.IntKind.i64 1)]), w)
  ) (
    (Qconv Tryd.prog 22 3 x1).bind fun v575 =>
    (Xcall Tryd.prog (Value.func (Fn.func 35) #[] #[]) #[x0, v575] w).bind fun r576 =>
    (Qun Go.UnOp.not r576.1).bind fun v577 =>
    condK v577 (
      (Xcall Tryd.prog (Value.func (Fn.func 36) #[] #[]) #[x0, (Go.Value.bool false)] r576.2).bind fun r578 =>
      s30J0 [x0, x1, undef, undef, (Go.Value.int Go.IntKind.u16 0), (Go.Value.int Go.IntKind.i64 0), r578.1, x0, v574, x1, v575, x0, v575, r576.1, v577, x0, r578.1, undef, undef, undef, undef, undef, undef, undef] [] r578.2
    ) (
      s30J0 [x0, x1, undef, undef, (Go.Value.int Go.IntKind.u16 0), (Go.Value.int Go.IntKind.i64 0), v575, x0, v574, x1, v575, x0, v575, r576.1, v577, undef, undef, undef, undef, undef, undef, undef, undef, undef] [] r576.2
    )
  )
noncomputable def s30 (x0 x1 : Value) (w : World) : Option (Value × World) :=
  (Qbin Tryd.prog Go.BinOp.eql 25 x0 (Go.Value.pointer none)).bind fun v574 =>
  condK v574 (
    some ((Value.tuple #[(Go.Value.int Go.IntKind.u16 0), (Go.Value.int Go.IntKind.i64 1)]), w)
  ) (
    (Qconv Tryd.prog 22 3 x1).bind fun v575 =>
    (Xcall Tryd.prog (Value.func (Fn.func 35) #[] #[]) #[x0, v575] w).bind fun r576 =>
    (Qun Go.UnOp.not r576.1).bind fun v577 =>
    condK v577 (
      (Xcall Tryd.prog (Value.func (Fn.func 36) #[] #[]) #[x0, (Go.Value.bool false)] r576.2).bind fun r578 =>
      s30M0 x0 r578.1 r578.2
    ) (
      s30M0 x0 v575 r576.2
    )
  )
theorem s30J0eq (s0 s1 s2 s3 s4 s5 s6 s7 s8 s9 s10 s11 s12 s13 s14 s15 s16 s17 s18 s19 s20 s21 s22 s23 : Value) (w : World) : s30J0 [s0, s1, s2, s3, s4, s5, s6, s7, s8, s9, s10, s11, s12, s13, s14, s15, s16, s17, s18, s19, s20, s21, s22, s23] [] w = s30M0 s0 s6 w := (show s30J0 [s0, s1, s2, s3, s4, s5, s6, s7, s8, s9, s10, s11, s12, s13, s14, s15, s16, s17, s18, s19, s20, s21, s22, s23] [] w = evK Tryd.prog 30 none (nav [1, 1, 1, 1] (bodyOf Tryd.f30)) none _ ⟨[s0, s1, s2, s3, s4, s5, s6, s7, s8, s9, s10, s11, s12, s13, s14, s15, s16, s17, s18, s19, s20, s21, s22, s23].toArray, []⟩ w (leaveK Tryd.prog Tryd.f30) from by kernel_rfl).trans (by kernel_rfl)
theorem s30J0of {s0 s1 s2 s3 s4 s5 s6 s7 s8 s9 s10 s11 s12 s13 s14 s15 s16 s17 s18 s19 s20 s21 s22 s23 : Value} {w : World} {r : _} (h : s30M0 s0 s6 w = some r) : s30J0 [s0, s1, s2, s3, s4, s5, s6, s7, s8, s9, s10, s11, s12, s13, s14, s15, s16, s17, s18, s19, s20, s21, s22, s23] [] w = some r :=
  ((s30J0eq s0 s1 s2 s3 s4 s5 s6 s7 s8 s9 s10 s11 s12 s13 s14 s15 s16 s17 s18 s19 s20 s21 s22 s23 w).trans h)
theorem s30eq (x0 x1 : Value) (w : World) : evK Tryd.prog 30 none (bodyOf Tryd.f30) none _ { tmps := (([x0, x1] : List Value) ++ List.replicate (24 - 2) undef).toArray, defers := [] } w (leaveK Tryd.prog Tryd.f30) = s30raw x0 x1 w := by kernel_rfl
theorem c30 {x0 x1 : Value} {w : World} {r : Value × World} (h : s30 x0 x1 w = some r) : C Tryd.prog 30 #[x0, x1] w = some r :=
  C_ev follows_all drawLaw (by kernel_rfl) Tryd.func30 (by rfl) ((s30eq x0 x1 w).trans (show s30raw x0 x1 w = some r from (Ev.bind_mono fun (v574 : Value) => (condK_mono id (Ev.bind_mono fun (v575 : Value) => (Ev.bind_mono fun (r576 : Value × World) => (Ev.bind_mono fun (v577 : Value) => (condK_mono (Ev.bind_mono fun (r578 : Value × World) => (s30J0of)) (s30J0of))))))) h))
theorem e30 {x0 x1 : Value} {w : World} {Q : Value × World → Prop} (h : Brings (s30 x0 x1 w) Q) : Brings (Xcall Tryd.prog (Value.func (Fn.func 30) #[] #[]) #[x0, x1] w) Q :=
  h.call (Xcall_fn Tryd.func30 (by decide +kernel) (by rfl) _ _ _ w) fun _ h => c30 h

/-! (*lychgate/lychgateref08.Pool).Pair -/
noncomputable def s31K0 : Exit → Act → World → Option (Value × World) := seqK (fun a w => evK Tryd.prog 31 none (nav [1, 1, 1, 1] (bodyOf Tryd.f31)) none _ a w (leaveK Tryd.prog Tryd.f31)) (leaveK Tryd.prog Tryd.f31)
noncomputable def s31J0 (s : List Value) (d : List Deferred) (w : World) : Option (Value × World) := s31K0 .normal ⟨s.toArray, d⟩ w
noncomputable def s31M0 (s0 s6 : Value) (w : World) : Option (Value × World) :=
  (Qbin Tryd.prog Go.BinOp.eql 3 s6 (Go.Value.int Go.IntKind.i64 0)).bind fun v594 =>
  condK v594 (
    some ((Value.tuple #[(Go.Value.int Go.IntKind.u16 0), (Go.Value.int Go.IntKind.i64 9)]), w)
  ) (
    (Xcall Tryd.prog (Value.func (Fn.func 37) #[] #[]) #[s0, s6] w).bind fun r595 =>
    (Qbin Tryd.prog Go.BinOp.add 3 s6 (Go.Value.int Go.IntKind.i64 1)).bind fun v596 =>
    (Xcall Tryd.prog (Value.func (Fn.func 37) #[] #[]) #[s0, v596] r595.2).bind fun r597 =>
    (Qconv Tryd.prog 3 22 s6).bind fun v598 =>
    some ((Value.tuple #[v598, (Go.Value.int Go.IntKind.i64 0)]), r597.2)
  )
noncomputable def s31raw (x0 x1 : Value) (w : World) : Option (Value × World) :=
  (Qbin Tryd.prog Go.BinOp.eql 25 x0 (Go.Value.pointer none)).bind fun v582 =>
  condK v582 (
    some ((Value.tuple #[(Go.Value.int Go.IntKind.u16 0), (Go.Value.int Go.IntKind.i64 1)]), w)
  ) (
    (Qconv Tryd.prog 22 3 x1).bind fun v583 =>
    (Qbin Tryd.prog Go.BinOp.rem 3 v583 (Go.Value.int Go.IntKind.i64 2)).bind fun v584 =>
    (Qbin Tryd.prog Go.BinOp.neq 3 v584 (Go.Value.int Go.IntKind.i64 0)).bind fun v585 =>
    (guardX v585 false w (Xcall Tryd.prog (Value.func (Fn.func 35) #[] #[]) #[(gv (isB v585 false) x0), (gv (isB v585 false) v583)] w)).bind fun r586 =>
    (guardQ v585 false (Qun Go.UnOp.not r586.1)).bind fun v587 =>
    (Qpick v585 (Go.Value.bool true) v587).bind fun v588 =>
    (guardQ v588 false (Qbin Tryd.prog Go.BinOp.add 3 (gv (isB v588 false) v583) (Go.Value.int Go.IntKind.i64 1))).bind fun v589 =>
    (guardX v588 false r586.2 (Xcall Tryd.prog (Value.func (Fn.func 35) #[] #[]) #[(gv (isB v588 false) x0), v589] r586.2)).bind fun r590 =>
    (guardQ v588 false (Qun Go.UnOp.not r590.1)).bind fun v591 =>
    (Qpick v588 (Go.Value.bool true) v591).bind fun v592 =>
    condK v592 (
      (Xcall Tryd.prog (Value.func (Fn.func 36) #[] #[]) #[x0, (Go.Value.bool true)] r590.2).bind fun r593 =>
      s31J0 [x0, x1, undef, undef, (Go.Value.int Go.IntKind.u16 0), (Go.Value.int Go.IntKind.i64 0), r593.1, x0, v582, x1, v583, v583, v584, v585, v585, (gv (isB v585 false) x0), (gv (isB v585 false) v583), r586.1, v587, v588, v588, (gv (isB v588 false) x0), (gv (isB v588 false) v583), v589, r590.1, v591, v592, x0, r593.1, undef, undef, undef, undef, undef, undef, undef, undef, undef, undef, undef] [] r593.2
    ) (
      s31J0 [x0, x1, undef, undef, (Go.Value.int Go.IntKind.u16 0), (Go.Value.int Go.IntKind.i64 0), v583, x0, v582, x1, v583, v583, v584, v585, v585, (gv (isB v585 false) x0), (gv (isB v585 false) v583), r586.1, v587, v588, v588, (gv (isB v588 false) x0), (gv (isB v588 false) v583), v589, r590.1, v591, v592, undef, undef, undef, undef, undef, undef, undef, undef, undef, undef, undef, undef, undef] [] r590.2
    )
  )
noncomputable def s31 (x0 x1 : Value) (w : World) : Option (Value × World) :=
  (Qbin Tryd.prog Go.BinOp.eql 25 x0 (Go.Value.pointer none)).bind fun v582 =>
  condK v582 (
    some ((Value.tuple #[(Go.Value.int Go.IntKind.u16 0), (Go.Value.int Go.IntKind.i64 1)]), w)
  ) (
    (Qconv Tryd.prog 22 3 x1).bind fun v583 =>
    (Qbin Tryd.prog Go.BinOp.rem 3 v583 (Go.Value.int Go.IntKind.i64 2)).bind fun v584 =>
    (Qbin Tryd.prog Go.BinOp.neq 3 v584 (Go.Value.int Go.IntKind.i64 0)).bind fun v585 =>
    (guardX v585 false w (Xcall Tryd.prog (Value.func (Fn.func 35) #[] #[]) #[(gv (isB v585 false) x0), (gv (isB v585 false) v583)] w)).bind fun r586 =>
    (guardQ v585 false (Qun Go.UnOp.not r586.1)).bind fun v587 =>
    (Qpick v585 (Go.Value.bool true) v587).bind fun v588 =>
    (guardQ v588 false (Qbin Tryd.prog Go.BinOp.add 3 (gv (isB v588 false) v583) (Go.Value.int Go.IntKind.i64 1))).bind fun v589 =>
    (guardX v588 false r586.2 (Xcall Tryd.prog (Value.func (Fn.func 35) #[] #[]) #[(gv (isB v588 false) x0), v589] r586.2)).bind fun r590 =>
    (guardQ v588 false (Qun Go.UnOp.not r590.1)).bind fun v591 =>
    (Qpick v588 (Go.Value.bool true) v591).bind fun v592 =>
    condK v592 (
      (Xcall Tryd.prog (Value.func (Fn.func 36) #[] #[]) #[x0, (Go.Value.bool true)] r590.2).bind fun r593 =>
      s31M0 x0 r593.1 r593.2
    ) (
      s31M0 x0 v583 r590.2
    )
  )
theorem s31J0eq (s0 s1 s2 s3 s4 s5 s6 s7 s8 s9 s10 s11 s12 s13 s14 s15 s16 s17 s18 s19 s20 s21 s22 s23 s24 s25 s26 s27 s28 s29 s30 s31 s32 s33 s34 s35 s36 s37 s38 s39 : Value) (w : World) : s31J0 [s0, s1, s2, s3, s4, s5, s6, s7, s8, s9, s10, s11, s12, s13, s14, s15, s16, s17, s18, s19, s20, s21, s22, s23, s24, s25, s26, s27, s28, s29, s30, s31, s32, s33, s34, s35, s36, s37, s38, s39] [] w = s31M0 s0 s6 w := (show s31J0 [s0, s1, s2, s3, s4, s5, s6, s7, s8, s9, s10, s11, s12, s13, s14, s15, s16, s17, s18, s19, s20, s21, s22, s23, s24, s25, s26, s27, s28, s29, s30, s31, s32, s33, s34, s35, s36, s37, s38, s39] [] w = evK Tryd.prog 31 none (nav [1, 1, 1, 1] (bodyOf Tryd.f31)) none _ ⟨[s0, s1, s2, s3, s4, s5, s6, s7, s8, s9, s10, s11, s12, s13, s14, s15, s16, s17, s18, s19, s20, s21, s22, s23, s24, s25, s26, s27, s28, s29, s30, s31, s32, s33, s34, s35, s36, s37, s38, s39].toArray, []⟩ w (leaveK Tryd.prog Tryd.f31) from by kernel_rfl).trans (by kernel_rfl)
theorem s31J0of {s0 s1 s2 s3 s4 s5 s6 s7 s8 s9 s10 s11 s12 s13 s14 s15 s16 s17 s18 s19 s20 s21 s22 s23 s24 s25 s26 s27 s28 s29 s30 s31 s32 s33 s34 s35 s36 s37 s38 s39 : Value} {w : World} {r : _} (h : s31M0 s0 s6 w = some r) : s31J0 [s0, s1, s2, s3, s4, s5, s6, s7, s8, s9, s10, s11, s12, s13, s14, s15, s16, s17, s18, s19, s20, s21, s22, s23, s24, s25, s26, s27, s28, s29, s30, s31, s32, s33, s34, s35, s36, s37, s38, s39] [] w = some r :=
  ((s31J0eq s0 s1 s2 s3 s4 s5 s6 s7 s8 s9 s10 s11 s12 s13 s14 s15 s16 s17 s18 s19 s20 s21 s22 s23 s24 s25 s26 s27 s28 s29 s30 s31 s32 s33 s34 s35 s36 s37 s38 s39 w).trans h)
theorem s31eq (x0 x1 : Value) (w : World) : evK Tryd.prog 31 none (bodyOf Tryd.f31) none _ { tmps := (([x0, x1] : List Value) ++ List.replicate (40 - 2) undef).toArray, defers := [] } w (leaveK Tryd.prog Tryd.f31) = s31raw x0 x1 w := by kernel_rfl
theorem c31 {x0 x1 : Value} {w : World} {r : Value × World} (h : s31 x0 x1 w = some r) : C Tryd.prog 31 #[x0, x1] w = some r :=
  C_ev follows_all drawLaw (by kernel_rfl) Tryd.func31 (by rfl) ((s31eq x0 x1 w).trans (show s31raw x0 x1 w = some r from (Ev.bind_mono fun (v582 : Value) => (condK_mono id (Ev.bind_mono fun (v583 : Value) => (Ev.bind_mono fun (v584 : Value) => (Ev.bind_mono fun (v585 : Value) => (Ev.bind_mono fun (r586 : Value × World) => (Ev.bind_mono fun (v587 : Value) => (Ev.bind_mono fun (v588 : Value) => (Ev.bind_mono fun (v589 : Value) => (Ev.bind_mono fun (r590 : Value × World) => (Ev.bind_mono fun (v591 : Value) => (Ev.bind_mono fun (v592 : Value) => (condK_mono (Ev.bind_mono fun (r593 : Value × World) => (s31J0of)) (s31J0of)))))))))))))) h))
theorem e31 {x0 x1 : Value} {w : World} {Q : Value × World → Prop} (h : Brings (s31 x0 x1 w) Q) : Brings (Xcall Tryd.prog (Value.func (Fn.func 31) #[] #[]) #[x0, x1] w) Q :=
  h.call (Xcall_fn Tryd.func31 (by decide +kernel) (by rfl) _ _ _ w) fun _ h => c31 h

/-! (*lychgate/lychgateref08.Pool).Give -/
noncomputable def s32K0 : Exit → Act → World → Option (Value × World) := seqK (fun a w => evK Tryd.prog 32 none (nav [1, 1, 1, 1] (bodyOf Tryd.f32)) none _ a w (leaveK Tryd.prog Tryd.f32)) (leaveK Tryd.prog Tryd.f32)
noncomputable def s32K1 : Exit → Act → World → Option (Value × World) := blockK 1 s32K0
noncomputable def s32L0 (s : List Value) (d : List Deferred) (w : World) : Option (Value × World) := loopN Tryd.prog 32 none (nav [1, 1, 1, 0, 1, 0, 0] (bodyOf Tryd.f32)) s32K1 s d w
noncomputable def s32B0 : List Value → World → Option (Exit × List Value × World)
  | [x0, x1, x5, x6], w =>
    (Qnil x0).bind fun v602 =>
    (QfieldAddr Tryd.prog 58 v602 2).bind fun v603 =>
    (Qload Tryd.prog 56 v603 w).bind fun v604 =>
    (Qlen Tryd.prog #[56] 3 #[v604] w).bind fun v605 =>
    (Qbin Tryd.prog Go.BinOp.lss 3 x6 v605).bind fun v606 =>
    condK v606 (
      (Qnil x0).bind fun v607 =>
      (QfieldAddr Tryd.prog 58 v607 2).bind fun v608 =>
      (Qload Tryd.prog 56 v608 w).bind fun v609 =>
      (QindexAddr Tryd.prog 56 v609 x6 w).bind fun v610 =>
      (Qload Tryd.prog 3 v610 w).bind fun v611 =>
      (Qconv Tryd.prog 22 3 x1).bind fun v612 =>
      (Qbin Tryd.prog Go.BinOp.neq 3 v611 v612).bind fun v613 =>
      condK v613 (
        (Qnil x0).bind fun v614 =>
        (QfieldAddr Tryd.prog 58 v614 2).bind fun v615 =>
        (Qload Tryd.prog 56 v615 w).bind fun v616 =>
        (QindexAddr Tryd.prog 56 v616 x6 w).bind fun v617 =>
        (Qload Tryd.prog 3 v617 w).bind fun v618 =>
        (XbuildSlice Tryd.prog 56 1 #[(0, v618)] w).bind fun r619 =>
        (Xbi Tryd.prog Go.Builtin.append #[56, 56] 56 #[x5, r619.1] r619.2).bind fun r620 =>
        (Qbin Tryd.prog Go.BinOp.add 3 x6 (Go.Value.int Go.IntKind.i64 1)).bind fun v621 =>
        some (Exit.normal, [x0, x1, r620.1, v621], r620.2)
      ) (
        (Qbin Tryd.prog Go.BinOp.add 3 x6 (Go.Value.int Go.IntKind.i64 1)).bind fun v622 =>
        some (Exit.normal, [x0, x1, x5, v622], w)
      )
    ) (
      some ((Exit.exit 1), [x0, x1, x5, x6], w)
    )
  | _, _ => none
noncomputable def s32R0 : Exit → List Value → World → Option (Value × World)
  | (Exit.exit 1), [x0, _, x5, _], w =>
    (Qnil x0).bind fun v623 =>
    (QfieldAddr Tryd.prog 58 v623 2).bind fun v624 =>
    (Xstore Tryd.prog 56 v624 x5 w).bind fun r625 =>
    some ((Go.Value.int Go.IntKind.i64 0), r625.2)
  | _, _, _ => none
noncomputable def s32raw (x0 x1 : Value) (w : World) : Option (Value × World) :=
  (Qbin Tryd.prog Go.BinOp.eql 25 x0 (Go.Value.pointer none)).bind fun v599 =>
  condK v599 (
    some ((Go.Value.int Go.IntKind.i64 1), w)
  ) (
    (Xcall Tryd.prog (Value.func (Fn.func 27) #[] #[]) #[x0, x1] w).bind fun r600 =>
    (Qun Go.UnOp.not r600.1).bind fun v601 =>
    condK v601 (
      some ((Go.Value.int Go.IntKind.i64 11), r600.2)
    ) (
      s32L0 [x0, x1, undef, undef, (Go.Value.int Go.IntKind.i64 0), (Go.Value.slice none 0 0), (Go.Value.int Go.IntKind.i64 0), v599, x0, v599, v601, x0, x1, r600.1, v601, undef, undef, undef, undef, undef, undef, undef, undef, undef, undef, undef, undef, undef, undef, undef, undef, undef, undef, undef, undef, undef, undef, undef, undef, undef, undef, undef, undef, undef, undef, undef, undef, undef] [] r600.2
    )
  )
noncomputable def s32 (x0 x1 : Value) (w : World) : Option (Value × World) :=
  (Qbin Tryd.prog Go.BinOp.eql 25 x0 (Go.Value.pointer none)).bind fun v599 =>
  condK v599 (
    some ((Go.Value.int Go.IntKind.i64 1), w)
  ) (
    (Xcall Tryd.prog (Value.func (Fn.func 27) #[] #[]) #[x0, x1] w).bind fun r600 =>
    (Qun Go.UnOp.not r600.1).bind fun v601 =>
    condK v601 (
      some ((Go.Value.int Go.IntKind.i64 11), r600.2)
    ) (
      loopR s32B0 s32R0 [x0, x1, (Go.Value.slice none 0 0), (Go.Value.int Go.IntKind.i64 0)] r600.2
    )
  )
theorem s32B0eq (x0 x1 x5 x6 : Value) (w : World) (g : Nat → Value) (d : List Deferred) : evK Tryd.prog 32 none (nav [1, 1, 1, 0, 1, 0, 0] (bodyOf Tryd.f32)) none _ (frm 48 (setL [0, 1, 5, 6] [x0, x1, x5, x6] g) d) w (projK [0, 1, 5, 6]) = s32B0 [x0, x1, x5, x6] w := by kernel_rfl
theorem s32R0x1eq (x0 x1 x5 x6 : Value) (g : Nat → Value) (w : World) : s32K1 (Exit.exit 1) (frm 48 (setL [0, 1, 5, 6] [x0, x1, x5, x6] g) []) w = s32R0 (Exit.exit 1) [x0, x1, x5, x6] w := by kernel_rfl
theorem s32R0of : ∀ (e : Exit) (xs : List Value) (w : World) (g : Nat → Value) (y : _), s32R0 e xs w = some y → s32K1 e (frm 48 (setL [0, 1, 5, 6] xs g) []) w = some y := by
  intro e xs w g y h
  unfold s32R0 at h
  split at h
  · exact (s32R0x1eq _ _ _ _ g _).trans h
  · cases h
theorem s32L0of {s0 s1 s2 s3 s4 s5 s6 s7 s8 s9 s10 s11 s12 s13 s14 s15 s16 s17 s18 s19 s20 s21 s22 s23 s24 s25 s26 s27 s28 s29 s30 s31 s32 s33 s34 s35 s36 s37 s38 s39 s40 s41 s42 s43 s44 s45 s46 s47 : Value} {w : World} {r : _} (h : loopR s32B0 s32R0 [s0, s1, s5, s6] w = some r) : s32L0 [s0, s1, s2, s3, s4, s5, s6, s7, s8, s9, s10, s11, s12, s13, s14, s15, s16, s17, s18, s19, s20, s21, s22, s23, s24, s25, s26, s27, s28, s29, s30, s31, s32, s33, s34, s35, s36, s37, s38, s39, s40, s41, s42, s43, s44, s45, s46, s47] [] w = some r :=
  loopN_of (B := s32B0) (R := s32R0) (n := 48) (live := [0, 1, 5, 6]) (fun xs w g y hl h => match xs, hl, h with | [x0, x1, x5, x6], _, h => (s32B0eq x0 x1 x5 x6 w g []).trans h) (by kernel_rfl) (s32R0of) (fun i => ([s0, s1, s2, s3, s4, s5, s6, s7, s8, s9, s10, s11, s12, s13, s14, s15, s16, s17, s18, s19, s20, s21, s22, s23, s24, s25, s26, s27, s28, s29, s30, s31, s32, s33, s34, s35, s36, s37, s38, s39, s40, s41, s42, s43, s44, s45, s46, s47] : List Value).getD i undef) (by kernel_rfl) rfl h
theorem s32eq (x0 x1 : Value) (w : World) : evK Tryd.prog 32 none (bodyOf Tryd.f32) none _ { tmps := (([x0, x1] : List Value) ++ List.replicate (48 - 2) undef).toArray, defers := [] } w (leaveK Tryd.prog Tryd.f32) = s32raw x0 x1 w := by kernel_rfl
theorem c32 {x0 x1 : Value} {w : World} {r : Value × World} (h : s32 x0 x1 w = some r) : C Tryd.prog 32 #[x0, x1] w = some r :=
  C_ev follows_all drawLaw (by kernel_rfl) Tryd.func32 (by rfl) ((s32eq x0 x1 w).trans (show s32raw x0 x1 w = some r from (Ev.bind_mono fun (v599 : Value) => (condK_mono id (Ev.bind_mono fun (r600 : Value × World) => (Ev.bind_mono fun (v601 : Value) => (condK_mono id (s32L0of)))))) h))
theorem e32 {x0 x1 : Value} {w : World} {Q : Value × World → Prop} (h : Brings (s32 x0 x1 w) Q) : Brings (Xcall Tryd.prog (Value.func (Fn.func 32) #[] #[]) #[x0, x1] w) Q :=
  h.call (Xcall_fn Tryd.func32 (by decide +kernel) (by rfl) _ _ _ w) fun _ h => c32 h

/-! (*lychgate/pool.Pool).free -/
noncomputable def s33K0 : Exit → Act → World → Option (Value × World) := seqK (fun a w => evK Tryd.prog 33 none (nav [1, 1] (bodyOf Tryd.f33)) none _ a w (leaveK Tryd.prog Tryd.f33)) (leaveK Tryd.prog Tryd.f33)
noncomputable def s33K1 : Exit → Act → World → Option (Value × World) := blockK 0 s33K0
noncomputable def s33L0 (s : List Value) (d : List Deferred) (w : World) : Option (Value × World) := loopN Tryd.prog 33 none (nav [1, 0, 1, 0, 0] (bodyOf Tryd.f33)) s33K1 s d w
noncomputable def s33B0 : List Value → World → Option (Exit × List Value × World)
  | [x0, x1, x6, x8, x9], w =>
    (Qbin Tryd.prog Go.BinOp.lss 3 x9 x8).bind fun v626 =>
    condK v626 (
      (Qbin Tryd.prog Go.BinOp.add 3 x1 x9).bind fun v627 =>
      (Qnil x0).bind fun v628 =>
      (QfieldAddr Tryd.prog 53 v628 0).bind fun v629 =>
      (Qload Tryd.prog 3 v629 w).bind fun v630 =>
      (Qbin Tryd.prog Go.BinOp.lss 3 v627 v630).bind fun v631 =>
      (guardQ v631 false (Qbin Tryd.prog Go.BinOp.add 3 (gv (isB v631 false) x1) (gv (isB v631 false) x9))).bind fun v632 =>
      (guardQ v631 false (Qnil (gv (isB v631 false) x0))).bind fun v633 =>
      (guardQ v631 false (QfieldAddr Tryd.prog 53 v633 1)).bind fun v634 =>
      (guardQ v631 false (Qload Tryd.prog 3 v634 w)).bind fun v635 =>
      (guardQ v631 false (Qbin Tryd.prog Go.BinOp.gtr 3 v632 v635)).bind fun v636 =>
      (Qpick v631 (Go.Value.bool true) v636).bind fun v637 =>
      (guardQ v637 false (Qbin Tryd.prog Go.BinOp.add 3 (gv (isB v637 false) x1) (gv (isB v637 false) x9))).bind fun v638 =>
      (guardQ v637 false (Qconv Tryd.prog 3 22 v638)).bind fun v639 =>
      (guardX v637 false w (Xcall Tryd.prog (Value.func (Fn.func 16) #[] #[]) #[(gv (isB v637 false) x0), v639] w)).bind fun r640 =>
      (Qpick v637 (Go.Value.bool true) r640.1).bind fun v641 =>
      condK v641 (
        some (Exit.ret, [x0, x1, (Go.Value.bool false), x8, x9], r640.2)
      ) (
        (Qbin Tryd.prog Go.BinOp.add 3 x9 (Go.Value.int Go.IntKind.i64 1)).bind fun v642 =>
        some (Exit.normal, [x0, x1, x6, x8, v642], r640.2)
      )
    ) (
      some ((Exit.exit 0), [x0, x1, x6, x8, x9], w)
    )
  | _, _ => none
noncomputable def s33R0 : Exit → List Value → World → Option (Value × World)
  | (Exit.exit 0), [_, _, _, _, _], w =>
    some ((Go.Value.bool true), w)
  | Exit.ret, [_, _, x6, _, _], w =>
    some (x6, w)
  | _, _, _ => none
noncomputable def s33raw (x0 x1 x2 : Value) (w : World) : Option (Value × World) :=
  s33L0 [x0, x1, x2, undef, undef, undef, (Go.Value.bool false), undef, x2, (Go.Value.int Go.IntKind.i64 0), undef, undef, undef, undef, undef, undef, undef, undef, undef, undef, undef, undef, undef, undef, undef, undef, undef, undef, undef, undef, undef, undef, undef, undef, undef, undef, undef, undef, undef] [] w
noncomputable def s33 (x0 x1 x2 : Value) (w : World) : Option (Value × World) :=
  loopR s33B0 s33R0 [x0, x1, (Go.Value.bool false), x2, (Go.Value.int Go.IntKind.i64 0)] w
theorem s33B0eq (x0 x1 x6 x8 x9 : Value) (w : World) (g : Nat → Value) (d : List Deferred) : evK Tryd.prog 33 none (nav [1, 0, 1, 0, 0] (bodyOf Tryd.f33)) none _ (frm 39 (setL [0, 1, 6, 8, 9] [x0, x1, x6, x8, x9] g) d) w (projK [0, 1, 6, 8, 9]) = s33B0 [x0, x1, x6, x8, x9] w := by kernel_rfl
theorem s33R0x0eq (x0 x1 x6 x8 x9 : Value) (g : Nat → Value) (w : World) : s33K1 (Exit.exit 0) (frm 39 (setL [0, 1, 6, 8, 9] [x0, x1, x6, x8, x9] g) []) w = s33R0 (Exit.exit 0) [x0, x1, x6, x8, x9] w := by kernel_rfl
theorem s33R0ret_eq (x0 x1 x6 x8 x9 : Value) (g : Nat → Value) (w : World) : s33K1 Exit.ret (frm 39 (setL [0, 1, 6, 8, 9] [x0, x1, x6, x8, x9] g) []) w = s33R0 Exit.ret [x0, x1, x6, x8, x9] w := by kernel_rfl
theorem s33R0of : ∀ (e : Exit) (xs : List Value) (w : World) (g : Nat → Value) (y : _), s33R0 e xs w = some y → s33K1 e (frm 39 (setL [0, 1, 6, 8, 9] xs g) []) w = some y := by
  intro e xs w g y h
  unfold s33R0 at h
  split at h
  · exact (s33R0x0eq _ _ _ _ _ g _).trans h
  · exact (s33R0ret_eq _ _ _ _ _ g _).trans h
  · cases h
theorem s33L0of {s0 s1 s2 s3 s4 s5 s6 s7 s8 s9 s10 s11 s12 s13 s14 s15 s16 s17 s18 s19 s20 s21 s22 s23 s24 s25 s26 s27 s28 s29 s30 s31 s32 s33 s34 s35 s36 s37 s38 : Value} {w : World} {r : _} (h : loopR s33B0 s33R0 [s0, s1, s6, s8, s9] w = some r) : s33L0 [s0, s1, s2, s3, s4, s5, s6, s7, s8, s9, s10, s11, s12, s13, s14, s15, s16, s17, s18, s19, s20, s21, s22, s23, s24, s25, s26, s27, s28, s29, s30, s31, s32, s33, s34, s35, s36, s37, s38] [] w = some r :=
  loopN_of (B := s33B0) (R := s33R0) (n := 39) (live := [0, 1, 6, 8, 9]) (fun xs w g y hl h => match xs, hl, h with | [x0, x1, x6, x8, x9], _, h => (s33B0eq x0 x1 x6 x8 x9 w g []).trans h) (by kernel_rfl) (s33R0of) (fun i => ([s0, s1, s2, s3, s4, s5, s6, s7, s8, s9, s10, s11, s12, s13, s14, s15, s16, s17, s18, s19, s20, s21, s22, s23, s24, s25, s26, s27, s28, s29, s30, s31, s32, s33, s34, s35, s36, s37, s38] : List Value).getD i undef) (by kernel_rfl) rfl h
theorem s33eq (x0 x1 x2 : Value) (w : World) : evK Tryd.prog 33 none (bodyOf Tryd.f33) none _ { tmps := (([x0, x1, x2] : List Value) ++ List.replicate (39 - 3) undef).toArray, defers := [] } w (leaveK Tryd.prog Tryd.f33) = s33raw x0 x1 x2 w := by kernel_rfl
theorem c33 {x0 x1 x2 : Value} {w : World} {r : Value × World} (h : s33 x0 x1 x2 w = some r) : C Tryd.prog 33 #[x0, x1, x2] w = some r :=
  C_ev follows_all drawLaw (by kernel_rfl) Tryd.func33 (by rfl) ((s33eq x0 x1 x2 w).trans (show s33raw x0 x1 x2 w = some r from (s33L0of) h))
theorem e33 {x0 x1 x2 : Value} {w : World} {Q : Value × World → Prop} (h : Brings (s33 x0 x1 x2 w) Q) : Brings (Xcall Tryd.prog (Value.func (Fn.func 33) #[] #[]) #[x0, x1, x2] w) Q :=
  h.call (Xcall_fn Tryd.func33 (by decide +kernel) (by rfl) _ _ _ w) fun _ h => c33 h

/-! (*lychgate/pool.Pool).all -/
noncomputable def s34 (x0 x1 : Value) (w : World) : Option (Value × World) :=
  (Xbox Tryd.prog 24 x0 w).bind fun r643 =>
  (Xbox Tryd.prog 3 x1 r643.2).bind fun r644 =>
  (some (Value.func (Go.Fn.func 38) #[] #[r643.1, r644.1])).bind fun v645 =>
  some (v645, r644.2)
theorem s34eq (x0 x1 : Value) (w : World) : evK Tryd.prog 34 none (bodyOf Tryd.f34) none _ { tmps := (([x0, x1] : List Value) ++ List.replicate (6 - 2) undef).toArray, defers := [] } w (leaveK Tryd.prog Tryd.f34) = s34 x0 x1 w := by kernel_rfl
theorem c34 {x0 x1 : Value} {w : World} {r : Value × World} (h : s34 x0 x1 w = some r) : C Tryd.prog 34 #[x0, x1] w = some r :=
  C_ev follows_all drawLaw (by kernel_rfl) Tryd.func34 (by rfl) ((s34eq x0 x1 w).trans h)
theorem e34 {x0 x1 : Value} {w : World} {Q : Value × World → Prop} (h : Brings (s34 x0 x1 w) Q) : Brings (Xcall Tryd.prog (Value.func (Fn.func 34) #[] #[]) #[x0, x1] w) Q :=
  h.call (Xcall_fn Tryd.func34 (by decide +kernel) (by rfl) _ _ _ w) fun _ h => c34 h

/-! (*lychgate/lychgateref08.Pool).free -/
noncomputable def s35 (x0 x1 : Value) (w : World) : Option (Value × World) :=
  (Qnil x0).bind fun v646 =>
  (QfieldAddr Tryd.prog 58 v646 0).bind fun v647 =>
  (Qload Tryd.prog 3 v647 w).bind fun v648 =>
  (Qbin Tryd.prog Go.BinOp.geq 3 x1 v648).bind fun v649 =>
  (guardQ v649 true (Qnil (gv (isB v649 true) x0))).bind fun v650 =>
  (guardQ v649 true (QfieldAddr Tryd.prog 58 v650 1)).bind fun v651 =>
  (guardQ v649 true (Qload Tryd.prog 3 v651 w)).bind fun v652 =>
  (guardQ v649 true (Qbin Tryd.prog Go.BinOp.leq 3 (gv (isB v649 true) x1) v652)).bind fun v653 =>
  (Qpick v649 v653 (Go.Value.bool false)).bind fun v654 =>
  (guardQ v654 true (Qconv Tryd.prog 3 22 (gv (isB v654 true) x1))).bind fun v655 =>
  (guardX v654 true w (Xcall Tryd.prog (Value.func (Fn.func 27) #[] #[]) #[(gv (isB v654 true) x0), v655] w)).bind fun r656 =>
  (guardQ v654 true (Qun Go.UnOp.not r656.1)).bind fun v657 =>
  (Qpick v654 v657 (Go.Value.bool false)).bind fun v658 =>
  some (v658, r656.2)
theorem s35eq (x0 x1 : Value) (w : World) : evK Tryd.prog 35 none (bodyOf Tryd.f35) none _ { tmps := (([x0, x1] : List Value) ++ List.replicate (26 - 2) undef).toArray, defers := [] } w (leaveK Tryd.prog Tryd.f35) = s35 x0 x1 w := by kernel_rfl
theorem c35 {x0 x1 : Value} {w : World} {r : Value × World} (h : s35 x0 x1 w = some r) : C Tryd.prog 35 #[x0, x1] w = some r :=
  C_ev follows_all drawLaw (by kernel_rfl) Tryd.func35 (by rfl) ((s35eq x0 x1 w).trans h)
theorem e35 {x0 x1 : Value} {w : World} {Q : Value × World → Prop} (h : Brings (s35 x0 x1 w) Q) : Brings (Xcall Tryd.prog (Value.func (Fn.func 35) #[] #[]) #[x0, x1] w) Q :=
  h.call (Xcall_fn Tryd.func35 (by decide +kernel) (by rfl) _ _ _ w) fun _ h => c35 h

/-! (*lychgate/lychgateref08.Pool).least -/
noncomputable def s36K0 : Exit → Act → World → Option (Value × World) := seqK (fun a w => evK Tryd.prog 36 none (nav [1, 1, 1] (bodyOf Tryd.f36)) none _ a w (leaveK Tryd.prog Tryd.f36)) (leaveK Tryd.prog Tryd.f36)
noncomputable def s36K1 : Exit → Act → World → Option (Value × World) := blockK 0 s36K0
noncomputable def s36L0 (s : List Value) (d : List Deferred) (w : World) : Option (Value × World) := loopN Tryd.prog 36 none (nav [1, 1, 0, 0, 0] (bodyOf Tryd.f36)) s36K1 s d w
noncomputable def s36B0 : List Value → World → Option (Exit × List Value × World)
  | [x0, x1, x4, x5], w =>
    (Qnil x0).bind fun v662 =>
    (QfieldAddr Tryd.prog 58 v662 1).bind fun v663 =>
    (Qload Tryd.prog 3 v663 w).bind fun v664 =>
    (Qbin Tryd.prog Go.BinOp.leq 3 x5 v664).bind fun v665 =>
    condK v665 (
      (Xcall Tryd.prog (Value.func (Fn.func 35) #[] #[]) #[x0, x5] w).bind fun r666 =>
      (guardQ r666.1 true (Qun Go.UnOp.not (gv (isB r666.1 true) x1))).bind fun v667 =>
      (guardQ (gv (isB r666.1 true) v667) false (Qbin Tryd.prog Go.BinOp.rem 3 (gv (isB (gv (isB r666.1 true) v667) false) x5) (Go.Value.int Go.IntKind.i64 2))).bind fun v668 =>
      (guardQ (gv (isB r666.1 true) v667) false (Qbin Tryd.prog Go.BinOp.eql 3 v668 (Go.Value.int Go.IntKind.i64 0))).bind fun v669 =>
      (guardQ (gv (isB (gv (isB r666.1 true) v667) false) v669) true (Qbin Tryd.prog Go.BinOp.add 3 (gv (isB (gv (isB (gv (isB r666.1 true) v667) false) v669) true) x5) (Go.Value.int Go.IntKind.i64 1))).bind fun v670 =>
      (guardX (gv (isB (gv (isB r666.1 true) v667) false) v669) true r666.2 (Xcall Tryd.prog (Value.func (Fn.func 35) #[] #[]) #[(gv (isB (gv (isB (gv (isB r666.1 true) v667) false) v669) true) x0), v670] r666.2)).bind fun r671 =>
      (guardQ (gv (isB r666.1 true) v667) false (Qpick (gv (isB (gv (isB r666.1 true) v667) false) v669) r671.1 (Go.Value.bool false))).bind fun v672 =>
      (guardQ r666.1 true (Qpick (gv (isB r666.1 true) v667) (Go.Value.bool true) v672)).bind fun v673 =>
      (Qpick r666.1 v673 (Go.Value.bool false)).bind fun v674 =>
      condK v674 (
        some (Exit.ret, [x0, x1, x5, x5], r671.2)
      ) (
        (Qbin Tryd.prog Go.BinOp.add 3 x5 (Go.Value.int Go.IntKind.i64 1)).bind fun v675 =>
        some (Exit.normal, [x0, x1, x4, v675], r671.2)
      )
    ) (
      some ((Exit.exit 0), [x0, x1, x4, x5], w)
    )
  | _, _ => none
noncomputable def s36R0 : Exit → List Value → World → Option (Value × World)
  | (Exit.exit 0), [_, _, _, _], w =>
    some ((Go.Value.int Go.IntKind.i64 0), w)
  | Exit.ret, [_, _, x4, _], w =>
    some (x4, w)
  | _, _, _ => none
noncomputable def s36raw (x0 x1 : Value) (w : World) : Option (Value × World) :=
  (Qnil x0).bind fun v659 =>
  (QfieldAddr Tryd.prog 58 v659 0).bind fun v660 =>
  (Qload Tryd.prog 3 v660 w).bind fun v661 =>
  s36L0 [x0, x1, undef, undef, (Go.Value.int Go.IntKind.i64 0), v661, x0, v659, v660, v661, undef, undef, undef, undef, undef, undef, undef, undef, undef, undef, undef, undef, undef, undef, undef, undef, undef, undef, undef, undef, undef, undef, undef, undef, undef, undef, undef] [] w
noncomputable def s36 (x0 x1 : Value) (w : World) : Option (Value × World) :=
  (Qnil x0).bind fun v659 =>
  (QfieldAddr Tryd.prog 58 v659 0).bind fun v660 =>
  (Qload Tryd.prog 3 v660 w).bind fun v661 =>
  loopR s36B0 s36R0 [x0, x1, (Go.Value.int Go.IntKind.i64 0), v661] w
theorem s36B0eq (x0 x1 x4 x5 : Value) (w : World) (g : Nat → Value) (d : List Deferred) : evK Tryd.prog 36 none (nav [1, 1, 0, 0, 0] (bodyOf Tryd.f36)) none _ (frm 37 (setL [0, 1, 4, 5] [x0, x1, x4, x5] g) d) w (projK [0, 1, 4, 5]) = s36B0 [x0, x1, x4, x5] w := by kernel_rfl
theorem s36R0x0eq (x0 x1 x4 x5 : Value) (g : Nat → Value) (w : World) : s36K1 (Exit.exit 0) (frm 37 (setL [0, 1, 4, 5] [x0, x1, x4, x5] g) []) w = s36R0 (Exit.exit 0) [x0, x1, x4, x5] w := by kernel_rfl
theorem s36R0ret_eq (x0 x1 x4 x5 : Value) (g : Nat → Value) (w : World) : s36K1 Exit.ret (frm 37 (setL [0, 1, 4, 5] [x0, x1, x4, x5] g) []) w = s36R0 Exit.ret [x0, x1, x4, x5] w := by kernel_rfl
theorem s36R0of : ∀ (e : Exit) (xs : List Value) (w : World) (g : Nat → Value) (y : _), s36R0 e xs w = some y → s36K1 e (frm 37 (setL [0, 1, 4, 5] xs g) []) w = some y := by
  intro e xs w g y h
  unfold s36R0 at h
  split at h
  · exact (s36R0x0eq _ _ _ _ g _).trans h
  · exact (s36R0ret_eq _ _ _ _ g _).trans h
  · cases h
theorem s36L0of {s0 s1 s2 s3 s4 s5 s6 s7 s8 s9 s10 s11 s12 s13 s14 s15 s16 s17 s18 s19 s20 s21 s22 s23 s24 s25 s26 s27 s28 s29 s30 s31 s32 s33 s34 s35 s36 : Value} {w : World} {r : _} (h : loopR s36B0 s36R0 [s0, s1, s4, s5] w = some r) : s36L0 [s0, s1, s2, s3, s4, s5, s6, s7, s8, s9, s10, s11, s12, s13, s14, s15, s16, s17, s18, s19, s20, s21, s22, s23, s24, s25, s26, s27, s28, s29, s30, s31, s32, s33, s34, s35, s36] [] w = some r :=
  loopN_of (B := s36B0) (R := s36R0) (n := 37) (live := [0, 1, 4, 5]) (fun xs w g y hl h => match xs, hl, h with | [x0, x1, x4, x5], _, h => (s36B0eq x0 x1 x4 x5 w g []).trans h) (by kernel_rfl) (s36R0of) (fun i => ([s0, s1, s2, s3, s4, s5, s6, s7, s8, s9, s10, s11, s12, s13, s14, s15, s16, s17, s18, s19, s20, s21, s22, s23, s24, s25, s26, s27, s28, s29, s30, s31, s32, s33, s34, s35, s36] : List Value).getD i undef) (by kernel_rfl) rfl h
theorem s36eq (x0 x1 : Value) (w : World) : evK Tryd.prog 36 none (bodyOf Tryd.f36) none _ { tmps := (([x0, x1] : List Value) ++ List.replicate (37 - 2) undef).toArray, defers := [] } w (leaveK Tryd.prog Tryd.f36) = s36raw x0 x1 w := by kernel_rfl
theorem c36 {x0 x1 : Value} {w : World} {r : Value × World} (h : s36 x0 x1 w = some r) : C Tryd.prog 36 #[x0, x1] w = some r :=
  C_ev follows_all drawLaw (by kernel_rfl) Tryd.func36 (by rfl) ((s36eq x0 x1 w).trans (show s36raw x0 x1 w = some r from (Ev.bind_mono fun (v659 : Value) => (Ev.bind_mono fun (v660 : Value) => (Ev.bind_mono fun (v661 : Value) => (s36L0of)))) h))
theorem e36 {x0 x1 : Value} {w : World} {Q : Value × World → Prop} (h : Brings (s36 x0 x1 w) Q) : Brings (Xcall Tryd.prog (Value.func (Fn.func 36) #[] #[]) #[x0, x1] w) Q :=
  h.call (Xcall_fn Tryd.func36 (by decide +kernel) (by rfl) _ _ _ w) fun _ h => c36 h

/-! (*lychgate/lychgateref08.Pool).take -/
noncomputable def s37K0 : Exit → Act → World → Option (Value × World) := seqK (fun a w => evK Tryd.prog 37 none (nav [1, 1, 1] (bodyOf Tryd.f37)) none _ a w (leaveK Tryd.prog Tryd.f37)) (leaveK Tryd.prog Tryd.f37)
noncomputable def s37K1 : Exit → Act → World → Option (Value × World) := blockK 0 s37K0
noncomputable def s37L0 (s : List Value) (d : List Deferred) (w : World) : Option (Value × World) := loopN Tryd.prog 37 none (nav [1, 1, 0, 1, 0, 0] (bodyOf Tryd.f37)) s37K1 s d w
noncomputable def s37K2 : Exit → Act → World → Option (Exit × List Value × World) := seqK (fun a w => evK Tryd.prog 37 none (nav [1, 1, 0, 1, 0, 0, 1, 1] (bodyOf Tryd.f37)) none _ a w (projK [0, 1, 4, 5, 6])) (projK [0, 1, 4, 5, 6])
noncomputable def s37K3 : Exit → Act → World → Option (Exit × List Value × World) := blockK 1 s37K2
noncomputable def s37K4 : Exit → Act → World → Option (Exit × List Value × World) := seqK (fun a w => evK Tryd.prog 37 none (nav [1, 1, 0, 1, 0, 0, 1, 0, 0, 1] (bodyOf Tryd.f37)) none _ a w s37K3) s37K3
noncomputable def s37J1 (s : List Value) (d : List Deferred) (w : World) : Option (Exit × List Value × World) := s37K4 .normal ⟨s.toArray, d⟩ w
noncomputable def s37M1 (s0 s1 s4 s5 s6 : Value) (w : World) : Option (Exit × List Value × World) :=
  (Qnil s0).bind fun v700 =>
  (QfieldAddr Tryd.prog 58 v700 2).bind fun v701 =>
  (Qload Tryd.prog 56 v701 w).bind fun v702 =>
  (QindexAddr Tryd.prog 56 v702 s6 w).bind fun v703 =>
  (Qload Tryd.prog 3 v703 w).bind fun v704 =>
  (XbuildSlice Tryd.prog 56 1 #[(0, v704)] w).bind fun r705 =>
  (Xbi Tryd.prog Go.Builtin.append #[56, 56] 56 #[s4, r705.1] r705.2).bind fun r706 =>
  (Qbin Tryd.prog Go.BinOp.add 3 s6 (Go.Value.int Go.IntKind.i64 1)).bind fun v707 =>
  some (Exit.normal, [s0, s1, r706.1, s5, v707], r706.2)
noncomputable def s37B0raw (g : Nat → Value) (d : List Deferred) : List Value → World → Option (Exit × List Value × World)
  | [x0, x1, x4, x5, x6], w =>
    (Qnil x0).bind fun v676 =>
    (QfieldAddr Tryd.prog 58 v676 2).bind fun v677 =>
    (Qload Tryd.prog 56 v677 w).bind fun v678 =>
    (Qlen Tryd.prog #[56] 3 #[v678] w).bind fun v679 =>
    (Qbin Tryd.prog Go.BinOp.lss 3 x6 v679).bind fun v680 =>
    condK v680 (
      (Qun Go.UnOp.not x5).bind fun v681 =>
      (guardQ v681 true (Qnil (gv (isB v681 true) x0))).bind fun v682 =>
      (guardQ v681 true (QfieldAddr Tryd.prog 58 v682 2)).bind fun v683 =>
      (guardQ v681 true (Qload Tryd.prog 56 v683 w)).bind fun v684 =>
      (guardQ v681 true (QindexAddr Tryd.prog 56 v684 (gv (isB v681 true) x6) w)).bind fun v685 =>
      (guardQ v681 true (Qload Tryd.prog 3 v685 w)).bind fun v686 =>
      (guardQ v681 true (Qbin Tryd.prog Go.BinOp.lss 3 (gv (isB v681 true) x1) v686)).bind fun v687 =>
      (Qpick v681 v687 (Go.Value.bool false)).bind fun v688 =>
      condK v688 (
        (XbuildSlice Tryd.prog 56 1 #[(0, x1)] w).bind fun r689 =>
        (Xbi Tryd.prog Go.Builtin.append #[56, 56] 56 #[x4, r689.1] r689.2).bind fun r690 =>
        s37J1 [x0, x1, (g 2), (g 3), r690.1, (Go.Value.bool true), x6, x6, x0, v676, v677, v678, v679, v680, (g 14), (g 15), x5, v681, v681, (gv (isB v681 true) x1), (gv (isB v681 true) x0), v682, v683, v684, (gv (isB v681 true) x6), v685, v686, v687, v688, x4, x1, r689.1, r690.1, (g 33), (g 34), (g 35), (g 36), (g 37), (g 38), (g 39), (g 40), (g 41), (g 42), (g 43), (g 44), (g 45), (g 46), (g 47), (g 48), (g 49), (g 50), (g 51), (g 52)] d r690.2
      ) (
        s37J1 [x0, x1, (g 2), (g 3), x4, x5, x6, x6, x0, v676, v677, v678, v679, v680, (g 14), (g 15), x5, v681, v681, (gv (isB v681 true) x1), (gv (isB v681 true) x0), v682, v683, v684, (gv (isB v681 true) x6), v685, v686, v687, v688, (g 29), (g 30), (g 31), (g 32), (g 33), (g 34), (g 35), (g 36), (g 37), (g 38), (g 39), (g 40), (g 41), (g 42), (g 43), (g 44), (g 45), (g 46), (g 47), (g 48), (g 49), (g 50), (g 51), (g 52)] d w
      )
    ) (
      some ((Exit.exit 0), [x0, x1, x4, x5, x6], w)
    )
  | _, _ => none
noncomputable def s37B0 : List Value → World → Option (Exit × List Value × World)
  | [x0, x1, x4, x5, x6], w =>
    (Qnil x0).bind fun v676 =>
    (QfieldAddr Tryd.prog 58 v676 2).bind fun v677 =>
    (Qload Tryd.prog 56 v677 w).bind fun v678 =>
    (Qlen Tryd.prog #[56] 3 #[v678] w).bind fun v679 =>
    (Qbin Tryd.prog Go.BinOp.lss 3 x6 v679).bind fun v680 =>
    condK v680 (
      (Qun Go.UnOp.not x5).bind fun v681 =>
      (guardQ v681 true (Qnil (gv (isB v681 true) x0))).bind fun v682 =>
      (guardQ v681 true (QfieldAddr Tryd.prog 58 v682 2)).bind fun v683 =>
      (guardQ v681 true (Qload Tryd.prog 56 v683 w)).bind fun v684 =>
      (guardQ v681 true (QindexAddr Tryd.prog 56 v684 (gv (isB v681 true) x6) w)).bind fun v685 =>
      (guardQ v681 true (Qload Tryd.prog 3 v685 w)).bind fun v686 =>
      (guardQ v681 true (Qbin Tryd.prog Go.BinOp.lss 3 (gv (isB v681 true) x1) v686)).bind fun v687 =>
      (Qpick v681 v687 (Go.Value.bool false)).bind fun v688 =>
      condK v688 (
        (XbuildSlice Tryd.prog 56 1 #[(0, x1)] w).bind fun r689 =>
        (Xbi Tryd.prog Go.Builtin.append #[56, 56] 56 #[x4, r689.1] r689.2).bind fun r690 =>
        s37M1 x0 x1 r690.1 (Go.Value.bool true) x6 r690.2
      ) (
        s37M1 x0 x1 x4 x5 x6 w
      )
    ) (
      some ((Exit.exit 0), [x0, x1, x4, x5, x6], w)
    )
  | _, _ => none
noncomputable def s37R0 : Exit → List Value → World → Option (Value × World)
  | (Exit.exit 0), [x0, x1, x4, x5, _], w =>
    (Qun Go.UnOp.not x5).bind fun v691 =>
    condK v691 (
      (XbuildSlice Tryd.prog 56 1 #[(0, x1)] w).bind fun r692 =>
      (Xbi Tryd.prog Go.Builtin.append #[56, 56] 56 #[x4, r692.1] r692.2).bind fun r693 =>
      (Qnil x0).bind fun v694 =>
      (QfieldAddr Tryd.prog 58 v694 2).bind fun v695 =>
      (Xstore Tryd.prog 56 v695 r693.1 r693.2).bind fun r696 =>
      some ((Value.tuple #[]), r696.2)
    ) (
      (Qnil x0).bind fun v697 =>
      (QfieldAddr Tryd.prog 58 v697 2).bind fun v698 =>
      (Xstore Tryd.prog 56 v698 x4 w).bind fun r699 =>
      some ((Value.tuple #[]), r699.2)
    )
  | _, _, _ => none
noncomputable def s37raw (x0 x1 : Value) (w : World) : Option (Value × World) :=
  s37L0 [x0, x1, undef, undef, (Go.Value.slice none 0 0), (Go.Value.bool false), (Go.Value.int Go.IntKind.i64 0), undef, undef, undef, undef, undef, undef, undef, undef, undef, undef, undef, undef, undef, undef, undef, undef, undef, undef, undef, undef, undef, undef, undef, undef, undef, undef, undef, undef, undef, undef, undef, undef, undef, undef, undef, undef, undef, undef, undef, undef, undef, undef, undef, undef, undef, undef] [] w
noncomputable def s37 (x0 x1 : Value) (w : World) : Option (Value × World) :=
  loopR s37B0 s37R0 [x0, x1, (Go.Value.slice none 0 0), (Go.Value.bool false), (Go.Value.int Go.IntKind.i64 0)] w
theorem s37J1eq (s0 s1 s2 s3 s4 s5 s6 s7 s8 s9 s10 s11 s12 s13 s14 s15 s16 s17 s18 s19 s20 s21 s22 s23 s24 s25 s26 s27 s28 s29 s30 s31 s32 s33 s34 s35 s36 s37 s38 s39 s40 s41 s42 s43 s44 s45 s46 s47 s48 s49 s50 s51 s52 : Value) (w : World) : s37J1 [s0, s1, s2, s3, s4, s5, s6, s7, s8, s9, s10, s11, s12, s13, s14, s15, s16, s17, s18, s19, s20, s21, s22, s23, s24, s25, s26, s27, s28, s29, s30, s31, s32, s33, s34, s35, s36, s37, s38, s39, s40, s41, s42, s43, s44, s45, s46, s47, s48, s49, s50, s51, s52] [] w = s37M1 s0 s1 s4 s5 s6 w := (show s37J1 [s0, s1, s2, s3, s4, s5, s6, s7, s8, s9, s10, s11, s12, s13, s14, s15, s16, s17, s18, s19, s20, s21, s22, s23, s24, s25, s26, s27, s28, s29, s30, s31, s32, s33, s34, s35, s36, s37, s38, s39, s40, s41, s42, s43, s44, s45, s46, s47, s48, s49, s50, s51, s52] [] w = evK Tryd.prog 37 none (nav [1, 1, 0, 1, 0, 0, 1, 0, 0, 1] (bodyOf Tryd.f37)) none _ ⟨[s0, s1, s2, s3, s4, s5, s6, s7, s8, s9, s10, s11, s12, s13, s14, s15, s16, s17, s18, s19, s20, s21, s22, s23, s24, s25, s26, s27, s28, s29, s30, s31, s32, s33, s34, s35, s36, s37, s38, s39, s40, s41, s42, s43, s44, s45, s46, s47, s48, s49, s50, s51, s52].toArray, []⟩ w s37K3 from by kernel_rfl).trans (by kernel_rfl)
theorem s37J1of {s0 s1 s2 s3 s4 s5 s6 s7 s8 s9 s10 s11 s12 s13 s14 s15 s16 s17 s18 s19 s20 s21 s22 s23 s24 s25 s26 s27 s28 s29 s30 s31 s32 s33 s34 s35 s36 s37 s38 s39 s40 s41 s42 s43 s44 s45 s46 s47 s48 s49 s50 s51 s52 : Value} {w : World} {r : _} (h : s37M1 s0 s1 s4 s5 s6 w = some r) : s37J1 [s0, s1, s2, s3, s4, s5, s6, s7, s8, s9, s10, s11, s12, s13, s14, s15, s16, s17, s18, s19, s20, s21, s22, s23, s24, s25, s26, s27, s28, s29, s30, s31, s32, s33, s34, s35, s36, s37, s38, s39, s40, s41, s42, s43, s44, s45, s46, s47, s48, s49, s50, s51, s52] [] w = some r :=
  ((s37J1eq s0 s1 s2 s3 s4 s5 s6 s7 s8 s9 s10 s11 s12 s13 s14 s15 s16 s17 s18 s19 s20 s21 s22 s23 s24 s25 s26 s27 s28 s29 s30 s31 s32 s33 s34 s35 s36 s37 s38 s39 s40 s41 s42 s43 s44 s45 s46 s47 s48 s49 s50 s51 s52 w).trans h)
theorem s37B0eq (x0 x1 x4 x5 x6 : Value) (w : World) (g : Nat → Value) (d : List Deferred) : evK Tryd.prog 37 none (nav [1, 1, 0, 1, 0, 0] (bodyOf Tryd.f37)) none _ (frm 53 (setL [0, 1, 4, 5, 6] [x0, x1, x4, x5, x6] g) d) w (projK [0, 1, 4, 5, 6]) = s37B0raw g d [x0, x1, x4, x5, x6] w := by kernel_rfl
theorem s37R0x0eq (x0 x1 x4 x5 x6 : Value) (g : Nat → Value) (w : World) : s37K1 (Exit.exit 0) (frm 53 (setL [0, 1, 4, 5, 6] [x0, x1, x4, x5, x6] g) []) w = s37R0 (Exit.exit 0) [x0, x1, x4, x5, x6] w := by kernel_rfl
theorem s37R0of : ∀ (e : Exit) (xs : List Value) (w : World) (g : Nat → Value) (y : _), s37R0 e xs w = some y → s37K1 e (frm 53 (setL [0, 1, 4, 5, 6] xs g) []) w = some y := by
  intro e xs w g y h
  unfold s37R0 at h
  split at h
  · exact (s37R0x0eq _ _ _ _ _ g _).trans h
  · cases h
theorem s37L0of {s0 s1 s2 s3 s4 s5 s6 s7 s8 s9 s10 s11 s12 s13 s14 s15 s16 s17 s18 s19 s20 s21 s22 s23 s24 s25 s26 s27 s28 s29 s30 s31 s32 s33 s34 s35 s36 s37 s38 s39 s40 s41 s42 s43 s44 s45 s46 s47 s48 s49 s50 s51 s52 : Value} {w : World} {r : _} (h : loopR s37B0 s37R0 [s0, s1, s4, s5, s6] w = some r) : s37L0 [s0, s1, s2, s3, s4, s5, s6, s7, s8, s9, s10, s11, s12, s13, s14, s15, s16, s17, s18, s19, s20, s21, s22, s23, s24, s25, s26, s27, s28, s29, s30, s31, s32, s33, s34, s35, s36, s37, s38, s39, s40, s41, s42, s43, s44, s45, s46, s47, s48, s49, s50, s51, s52] [] w = some r :=
  loopN_of (B := s37B0) (R := s37R0) (n := 53) (live := [0, 1, 4, 5, 6]) (fun xs w g y hl h => match xs, hl, h with | [x0, x1, x4, x5, x6], _, h => (s37B0eq x0 x1 x4 x5 x6 w g []).trans (show s37B0raw g [] [x0, x1, x4, x5, x6] w = some y from (Ev.bind_mono fun (v676 : Value) => (Ev.bind_mono fun (v677 : Value) => (Ev.bind_mono fun (v678 : Value) => (Ev.bind_mono fun (v679 : Value) => (Ev.bind_mono fun (v680 : Value) => (condK_mono (Ev.bind_mono fun (v681 : Value) => (Ev.bind_mono fun (v682 : Value) => (Ev.bind_mono fun (v683 : Value) => (Ev.bind_mono fun (v684 : Value) => (Ev.bind_mono fun (v685 : Value) => (Ev.bind_mono fun (v686 : Value) => (Ev.bind_mono fun (v687 : Value) => (Ev.bind_mono fun (v688 : Value) => (condK_mono (Ev.bind_mono fun (r689 : Value × World) => (Ev.bind_mono fun (r690 : Value × World) => (s37J1of))) (s37J1of)))))))))) id)))))) h)) (by kernel_rfl) (s37R0of) (fun i => ([s0, s1, s2, s3, s4, s5, s6, s7, s8, s9, s10, s11, s12, s13, s14, s15, s16, s17, s18, s19, s20, s21, s22, s23, s24, s25, s26, s27, s28, s29, s30, s31, s32, s33, s34, s35, s36, s37, s38, s39, s40, s41, s42, s43, s44, s45, s46, s47, s48, s49, s50, s51, s52] : List Value).getD i undef) (by kernel_rfl) rfl h
theorem s37eq (x0 x1 : Value) (w : World) : evK Tryd.prog 37 none (bodyOf Tryd.f37) none _ { tmps := (([x0, x1] : List Value) ++ List.replicate (53 - 2) undef).toArray, defers := [] } w (leaveK Tryd.prog Tryd.f37) = s37raw x0 x1 w := by kernel_rfl
theorem c37 {x0 x1 : Value} {w : World} {r : Value × World} (h : s37 x0 x1 w = some r) : C Tryd.prog 37 #[x0, x1] w = some r :=
  C_ev follows_all drawLaw (by kernel_rfl) Tryd.func37 (by rfl) ((s37eq x0 x1 w).trans (show s37raw x0 x1 w = some r from (s37L0of) h))
theorem e37 {x0 x1 : Value} {w : World} {Q : Value × World → Prop} (h : Brings (s37 x0 x1 w) Q) : Brings (Xcall Tryd.prog (Value.func (Fn.func 37) #[] #[]) #[x0, x1] w) Q :=
  h.call (Xcall_fn Tryd.func37 (by decide +kernel) (by rfl) _ _ _ w) fun _ h => c37 h

/-! (*lychgate/pool.Pool).all$1 -/
noncomputable def s38K0 : Exit → Act → World → Option (Value × World) := blockK 0 (leaveK Tryd.prog Tryd.f38)
noncomputable def s38L0 (s : List Value) (d : List Deferred) (w : World) : Option (Value × World) := loopN Tryd.prog 38 none (nav [1, 0, 0] (bodyOf Tryd.f38)) s38K0 s d w
noncomputable def s38B0 : List Value → World → Option (Exit × List Value × World)
  | [x0, x1, x2, x4], w =>
    (Qload Tryd.prog 24 x1 w).bind fun v712 =>
    (Qnil v712).bind fun v713 =>
    (QfieldAddr Tryd.prog 53 v713 1).bind fun v714 =>
    (Qload Tryd.prog 3 v714 w).bind fun v715 =>
    (Qbin Tryd.prog Go.BinOp.leq 3 x4 v715).bind fun v716 =>
    condK v716 (
      (Qload Tryd.prog 3 x2 w).bind fun v717 =>
      (Qbin Tryd.prog Go.BinOp.rem 3 x4 v717).bind fun v718 =>
      (Qbin Tryd.prog Go.BinOp.eql 3 v718 (Go.Value.int Go.IntKind.i64 0)).bind fun v719 =>
      (guardQ v719 true (Qload Tryd.prog 24 x1 w)).bind fun v720 =>
      (guardQ v719 true (Qload Tryd.prog 3 x2 w)).bind fun v721 =>
      (guardX v719 true w (Xcall Tryd.prog (Value.func (Fn.func 33) #[] #[]) #[v720, (gv (isB v719 true) x4), v721] w)).bind fun r722 =>
      (Qpick v719 r722.1 (Go.Value.bool false)).bind fun v723 =>
      (guardX v723 true r722.2 (Xcall Tryd.prog (gv (isB v723 true) x0) #[(gv (isB v723 true) x4)] r722.2)).bind fun r724 =>
      (guardQ v723 true (Qun Go.UnOp.not r724.1)).bind fun v725 =>
      (Qpick v723 v725 (Go.Value.bool false)).bind fun v726 =>
      condK v726 (
        some (Exit.ret, [x0, x1, x2, x4], r724.2)
      ) (
        (Qbin Tryd.prog Go.BinOp.add 3 x4 (Go.Value.int Go.IntKind.i64 1)).bind fun v727 =>
        some (Exit.normal, [x0, x1, x2, v727], r724.2)
      )
    ) (
      some ((Exit.exit 0), [x0, x1, x2, x4], w)
    )
  | _, _ => none
noncomputable def s38R0 : Exit → List Value → World → Option (Value × World)
  | (Exit.exit 0), [_, _, _, _], w =>
    some ((Value.tuple #[]), w)
  | Exit.ret, [_, _, _, _], w =>
    some ((Value.tuple #[]), w)
  | _, _, _ => none
noncomputable def s38raw (x0 x1 x2 : Value) (w : World) : Option (Value × World) :=
  (Qload Tryd.prog 24 x1 w).bind fun v708 =>
  (Qnil v708).bind fun v709 =>
  (QfieldAddr Tryd.prog 53 v709 0).bind fun v710 =>
  (Qload Tryd.prog 3 v710 w).bind fun v711 =>
  s38L0 [x0, x1, x2, undef, v711, v708, v709, v710, v711, undef, undef, undef, undef, undef, undef, undef, undef, undef, undef, undef, undef, undef, undef, undef, undef, undef, undef, undef, undef, undef, undef, undef, undef] [] w
noncomputable def s38 (x0 x1 x2 : Value) (w : World) : Option (Value × World) :=
  (Qload Tryd.prog 24 x1 w).bind fun v708 =>
  (Qnil v708).bind fun v709 =>
  (QfieldAddr Tryd.prog 53 v709 0).bind fun v710 =>
  (Qload Tryd.prog 3 v710 w).bind fun v711 =>
  loopR s38B0 s38R0 [x0, x1, x2, v711] w
theorem s38B0eq (x0 x1 x2 x4 : Value) (w : World) (g : Nat → Value) (d : List Deferred) : evK Tryd.prog 38 none (nav [1, 0, 0] (bodyOf Tryd.f38)) none _ (frm 33 (setL [0, 1, 2, 4] [x0, x1, x2, x4] g) d) w (projK [0, 1, 2, 4]) = s38B0 [x0, x1, x2, x4] w := by kernel_rfl
theorem s38R0x0eq (x0 x1 x2 x4 : Value) (g : Nat → Value) (w : World) : s38K0 (Exit.exit 0) (frm 33 (setL [0, 1, 2, 4] [x0, x1, x2, x4] g) []) w = s38R0 (Exit.exit 0) [x0, x1, x2, x4] w := by kernel_rfl
theorem s38R0ret_eq (x0 x1 x2 x4 : Value) (g : Nat → Value) (w : World) : s38K0 Exit.ret (frm 33 (setL [0, 1, 2, 4] [x0, x1, x2, x4] g) []) w = s38R0 Exit.ret [x0, x1, x2, x4] w := by kernel_rfl
theorem s38R0of : ∀ (e : Exit) (xs : List Value) (w : World) (g : Nat → Value) (y : _), s38R0 e xs w = some y → s38K0 e (frm 33 (setL [0, 1, 2, 4] xs g) []) w = some y := by
  intro e xs w g y h
  unfold s38R0 at h
  split at h
  · exact (s38R0x0eq _ _ _ _ g _).trans h
  · exact (s38R0ret_eq _ _ _ _ g _).trans h
  · cases h
theorem s38L0of {s0 s1 s2 s3 s4 s5 s6 s7 s8 s9 s10 s11 s12 s13 s14 s15 s16 s17 s18 s19 s20 s21 s22 s23 s24 s25 s26 s27 s28 s29 s30 s31 s32 : Value} {w : World} {r : _} (h : loopR s38B0 s38R0 [s0, s1, s2, s4] w = some r) : s38L0 [s0, s1, s2, s3, s4, s5, s6, s7, s8, s9, s10, s11, s12, s13, s14, s15, s16, s17, s18, s19, s20, s21, s22, s23, s24, s25, s26, s27, s28, s29, s30, s31, s32] [] w = some r :=
  loopN_of (B := s38B0) (R := s38R0) (n := 33) (live := [0, 1, 2, 4]) (fun xs w g y hl h => match xs, hl, h with | [x0, x1, x2, x4], _, h => (s38B0eq x0 x1 x2 x4 w g []).trans h) (by kernel_rfl) (s38R0of) (fun i => ([s0, s1, s2, s3, s4, s5, s6, s7, s8, s9, s10, s11, s12, s13, s14, s15, s16, s17, s18, s19, s20, s21, s22, s23, s24, s25, s26, s27, s28, s29, s30, s31, s32] : List Value).getD i undef) (by kernel_rfl) rfl h
theorem s38eq (x0 x1 x2 : Value) (w : World) : evK Tryd.prog 38 none (bodyOf Tryd.f38) none _ { tmps := (([x0, x1, x2] : List Value) ++ List.replicate (33 - 3) undef).toArray, defers := [] } w (leaveK Tryd.prog Tryd.f38) = s38raw x0 x1 x2 w := by kernel_rfl
theorem c38 {x0 x1 x2 : Value} {w : World} {r : Value × World} (h : s38 x0 x1 x2 w = some r) : C Tryd.prog 38 #[x0, x1, x2] w = some r :=
  C_ev follows_all drawLaw (by kernel_rfl) Tryd.func38 (by rfl) ((s38eq x0 x1 x2 w).trans (show s38raw x0 x1 x2 w = some r from (Ev.bind_mono fun (v708 : Value) => (Ev.bind_mono fun (v709 : Value) => (Ev.bind_mono fun (v710 : Value) => (Ev.bind_mono fun (v711 : Value) => (s38L0of))))) h))
theorem e38 {x0 x1 x2 : Value} {w : World} {Q : Value × World → Prop} (h : Brings (s38 x0 x1 x2 w) Q) : Brings (Xcall Tryd.prog (Value.func (Fn.func 38) #[] #[x1, x2]) #[x0] w) Q :=
  h.call (Xcall_fn Tryd.func38 (by decide +kernel) (by rfl) _ _ _ w) fun _ h => c38 h

/-! gosem.cut.vars -/
noncomputable def s58 (w : World) : Option (Value × World) :=
  (Qbuild Tryd.prog 63 #[(0, (Go.Value.int Go.IntKind.u8 0)), (1, (Go.Value.int Go.IntKind.u8 1)), (2, (Go.Value.int Go.IntKind.u8 56)), (3, (Go.Value.int Go.IntKind.u8 2)), (4, (Go.Value.int Go.IntKind.u8 57)), (5, (Go.Value.int Go.IntKind.u8 49)), (6, (Go.Value.int Go.IntKind.u8 28)), (7, (Go.Value.int Go.IntKind.u8 3)), (8, (Go.Value.int Go.IntKind.u8 61)), (9, (Go.Value.int Go.IntKind.u8 58)), (10, (Go.Value.int Go.IntKind.u8 42)), (11, (Go.Value.int Go.IntKind.u8 50)), (12, (Go.Value.int Go.IntKind.u8 38)), (13, (Go.Value.int Go.IntKind.u8 29)), (14, (Go.Value.int Go.IntKind.u8 17)), (15, (Go.Value.int Go.IntKind.u8 4)), (16, (Go.Value.int Go.IntKind.u8 62)), (17, (Go.Value.int Go.IntKind.u8 47)), (18, (Go.Value.int Go.IntKind.u8 59)), (19, (Go.Value.int Go.IntKind.u8 36)), (20, (Go.Value.int Go.IntKind.u8 45)), (21, (Go.Value.int Go.IntKind.u8 43)), (22, (Go.Value.int Go.IntKind.u8 51)), (23, (Go.Value.int Go.IntKind.u8 22)), (24, (Go.Value.int Go.IntKind.u8 53)), (25, (Go.Value.int Go.IntKind.u8 39)), (26, (Go.Value.int Go.IntKind.u8 33)), (27, (Go.Value.int Go.IntKind.u8 30)), (28, (Go.Value.int Go.IntKind.u8 24)), (29, (Go.Value.int Go.IntKind.u8 18)), (30, (Go.Value.int Go.IntKind.u8 12)), (31, (Go.Value.int Go.IntKind.u8 5)), (32, (Go.Value.int Go.IntKind.u8 63)), (33, (Go.Value.int Go.IntKind.u8 55)), (34, (Go.Value.int Go.IntKind.u8 48)), (35, (Go.Value.int Go.IntKind.u8 27)), (36, (Go.Value.int Go.IntKind.u8 60)), (37, (Go.Value.int Go.IntKind.u8 41)), (38, (Go.Value.int Go.IntKind.u8 37)), (39, (Go.Value.int Go.IntKind.u8 16)), (40, (Go.Value.int Go.IntKind.u8 46)), (41, (Go.Value.int Go.IntKind.u8 35)), (42, (Go.Value.int Go.IntKind.u8 44)), (43, (Go.Value.int Go.IntKind.u8 21)), (44, (Go.Value.int Go.IntKind.u8 52)), (45, (Go.Value.int Go.IntKind.u8 32)), (46, (Go.Value.int Go.IntKind.u8 23)), (47, (Go.Value.int Go.IntKind.u8 11)), (48, (Go.Value.int Go.IntKind.u8 54)), (49, (Go.Value.int Go.IntKind.u8 26)), (50, (Go.Value.int Go.IntKind.u8 40)), (51, (Go.Value.int Go.IntKind.u8 15)), (52, (Go.Value.int Go.IntKind.u8 34)), (53, (Go.Value.int Go.IntKind.u8 20)), (54, (Go.Value.int Go.IntKind.u8 31)), (55, (Go.Value.int Go.IntKind.u8 10)), (56, (Go.Value.int Go.IntKind.u8 25)), (57, (Go.Value.int Go.IntKind.u8 14)), (58, (Go.Value.int Go.IntKind.u8 19)), (59, (Go.Value.int Go.IntKind.u8 9)), (60, (Go.Value.int Go.IntKind.u8 13)), (61, (Go.Value.int Go.IntKind.u8 8)), (62, (Go.Value.int Go.IntKind.u8 7)), (63, (Go.Value.int Go.IntKind.u8 6))] w).bind fun v728 =>
  (Xstore Tryd.prog 63 (Value.pointer (some ⟨0, 0, none⟩)) v728 w).bind fun r729 =>
  some ((Value.tuple #[]), r729.2)
theorem s58eq (w : World) : evK Tryd.prog 58 none (bodyOf Tryd.f58) none _ { tmps := (([] : List Value) ++ List.replicate (1 - 0) undef).toArray, defers := [] } w (leaveK Tryd.prog Tryd.f58) = s58  w := by kernel_rfl
theorem c58 {w : World} {r : Value × World} (h : s58  w = some r) : C Tryd.prog 58 #[] w = some r :=
  C_ev follows_all drawLaw (by kernel_rfl) Tryd.func58 (by rfl) ((s58eq  w).trans h)
theorem e58 {w : World} {Q : Value × World → Prop} (h : Brings (s58  w) Q) : Brings (Xcall Tryd.prog (Value.func (Fn.func 58) #[] #[]) #[] w) Q :=
  h.call (Xcall_fn Tryd.func58 (by decide +kernel) (by rfl) _ _ _ w) fun _ h => c58 h

end Go.Proofs.YtebhknagnkcldaaDoor
