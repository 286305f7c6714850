/- The functions of the program, by their texts. -/
import Derived.Test.YtmhpecfgipmgaaaFa
import Derived.Test.YtmhpecfgipmgaaaProg
import Derived.KernelRfl
namespace Go.Proofs.Ytmhpecfgipmgaaa
open Go Go.Ev
open Go.Proofs
theorem follows_all : Try.prog.follows .mixedOrders = true := by kernel_rfl
/-! lychgate/lychgatelaw07.TrackNext -/
noncomputable def s3 (x0 x1 x2 : Value) (w : World) : Option (Value × World) :=
  (Xcall Try.prog (Value.func (Fn.func 12) #[] #[]) #[x0, x1, x2] w).bind fun r1 =>
  (Qext r1.1 0).bind fun v2 =>
  (Qext r1.1 1).bind fun v3 =>
  (Xcall Try.prog (Value.func (Fn.func 13) #[] #[]) #[x0, x1, x2] r1.2).bind fun r4 =>
  (Qext r4.1 0).bind fun v5 =>
  (Qext r4.1 1).bind fun v6 =>
  (Xcall Try.prog (Value.func (Fn.func 14) #[] #[]) #[] r4.2).bind fun r7 =>
  (guardQ r7.1 true (Qbin Try.prog Go.BinOp.eql 22 (gv (isB r7.1 true) v2) (gv (isB r7.1 true) v5))).bind fun v8 =>
  (Qpick r7.1 v8 (Go.Value.bool false)).bind fun v9 =>
  (guardQ v9 true (Qbin Try.prog Go.BinOp.eql 4 (gv (isB v9 true) v3) (gv (isB v9 true) v6))).bind fun v10 =>
  (Qpick v9 v10 (Go.Value.bool false)).bind fun v11 =>
  (guardX v11 true r7.2 (Xcall Try.prog (Value.func (Fn.func 15) #[] #[]) #[(gv (isB v11 true) x2)] r7.2)).bind fun r12 =>
  (guardX v11 true r12.2 (Xcall Try.prog (Value.func (Fn.func 16) #[] #[]) #[(gv (isB v11 true) x2)] r12.2)).bind fun r13 =>
  (guardQ v11 true (Qbin Try.prog Go.BinOp.eql 4 r12.1 r13.1)).bind fun v14 =>
  (Qpick v11 v14 (Go.Value.bool false)).bind fun v15 =>
  some (v15, r13.2)
theorem s3eq (x0 x1 x2 : Value) (w : World) : evK Try.prog 3 none (bodyOf Try.f3) none _ { tmps := (([x0, x1, x2] : List Value) ++ List.replicate (43 - 3) undef).toArray, defers := [] } w (leaveK Try.prog Try.f3) = s3 x0 x1 x2 w := by kernel_rfl
theorem c3 {x0 x1 x2 : Value} {w : World} {r : Value × World} (h : s3 x0 x1 x2 w = some r) : C Try.prog 3 #[x0, x1, x2] w = some r :=
  C_ev follows_all drawLaw (by kernel_rfl) Try.func3 (by rfl) ((s3eq x0 x1 x2 w).trans h)
theorem e3 {x0 x1 x2 : Value} {w : World} {Q : Value × World → Prop} (h : Brings (s3 x0 x1 x2 w) Q) : Brings (Xcall Try.prog (Value.func (Fn.func 3) #[] #[]) #[x0, x1, x2] w) Q :=
  h.call (Xcall_fn Try.func3 (by decide +kernel) (by rfl) _ _ _ w) fun _ h => c3 h

/-! lychgate/lychgatelaw07.TrackClosed -/
noncomputable def s4 (x0 x1 : Value) (w : World) : Option (Value × World) :=
  (Xcall Try.prog (Value.func (Fn.func 12) #[] #[]) #[(Go.Value.int Go.IntKind.i64 7), x0, x1] w).bind fun r16 =>
  (Qext r16.1 0).bind fun v17 =>
  (Qext r16.1 1).bind fun v18 =>
  (Xcall Try.prog (Value.func (Fn.func 12) #[] #[]) #[(Go.Value.int Go.IntKind.i64 0), x0, x1] r16.2).bind fun r19 =>
  (Qext r19.1 0).bind fun v20 =>
  (Qext r19.1 1).bind fun v21 =>
  (Qun Go.UnOp.not x0).bind fun v22 =>
  (guardX v22 true r19.2 (Xcall Try.prog (Value.func (Fn.func 15) #[] #[]) #[(gv (isB v22 true) x1)] r19.2)).bind fun r23 =>
  (Qpick v22 r23.1 (Go.Value.bool false)).bind fun v24 =>
  (Xcall Try.prog (Value.func (Fn.func 14) #[] #[]) #[] r23.2).bind fun r25 =>
  (guardQ r25.1 true (Qbin Try.prog Go.BinOp.eql 4 (gv (isB r25.1 true) v21) (gv (isB r25.1 true) v24))).bind fun v26 =>
  (Qpick r25.1 v26 (Go.Value.bool false)).bind fun v27 =>
  (guardQ v27 true (Qun Go.UnOp.not (gv (isB v27 true) v21))).bind fun v28 =>
  (guardQ (gv (isB v27 true) v28) false (Qbin Try.prog Go.BinOp.eql 22 (gv (isB (gv (isB v27 true) v28) false) v20) (Go.Value.int Go.IntKind.i64 1))).bind fun v29 =>
  (guardQ v27 true (Qpick (gv (isB v27 true) v28) (Go.Value.bool true) v29)).bind fun v30 =>
  (Qpick v27 v30 (Go.Value.bool false)).bind fun v31 =>
  (guardQ v31 true (Qun Go.UnOp.not (gv (isB v31 true) v24))).bind fun v32 =>
  (guardQ (gv (isB (gv (isB v31 true) v32) false) (gv (isB (gv (isB v31 true) v32) false) v18)) true (Qbin Try.prog Go.BinOp.eql 22 (gv (isB (gv (isB (gv (isB v31 true) v32) false) (gv (isB (gv (isB v31 true) v32) false) v18)) true) v17) (Go.Value.int Go.IntKind.i64 1))).bind fun v33 =>
  (guardQ (gv (isB v31 true) v32) false (Qpick (gv (isB (gv (isB v31 true) v32) false) (gv (isB (gv (isB v31 true) v32) false) v18)) v33 (Go.Value.bool false))).bind fun v34 =>
  (guardQ v31 true (Qpick (gv (isB v31 true) v32) (Go.Value.bool true) v34)).bind fun v35 =>
  (Qpick v31 v35 (Go.Value.bool false)).bind fun v36 =>
  (guardQ (gv (isB v36 true) (gv (isB v36 true) v24)) false (Qun Go.UnOp.not (gv (isB (gv (isB v36 true) (gv (isB v36 true) v24)) false) v18))).bind fun v37 =>
  (guardQ v36 true (Qpick (gv (isB v36 true) (gv (isB v36 true) v24)) (Go.Value.bool true) v37)).bind fun v38 =>
  (guardQ (gv (isB v36 true) v38) false (Qbin Try.prog Go.BinOp.eql 22 (gv (isB (gv (isB v36 true) v38) false) v17) (Go.Value.int Go.IntKind.i64 7))).bind fun v39 =>
  (guardQ v36 true (Qpick (gv (isB v36 true) v38) (Go.Value.bool true) v39)).bind fun v40 =>
  (Qpick v36 v40 (Go.Value.bool false)).bind fun v41 =>
  some (v41, r25.2)
theorem s4eq (x0 x1 : Value) (w : World) : evK Try.prog 4 none (bodyOf Try.f4) none _ { tmps := (([x0, x1] : List Value) ++ List.replicate (64 - 2) undef).toArray, defers := [] } w (leaveK Try.prog Try.f4) = s4 x0 x1 w := by kernel_rfl
theorem c4 {x0 x1 : Value} {w : World} {r : Value × World} (h : s4 x0 x1 w = some r) : C Try.prog 4 #[x0, x1] w = some r :=
  C_ev follows_all drawLaw (by kernel_rfl) Try.func4 (by rfl) ((s4eq x0 x1 w).trans h)
theorem e4 {x0 x1 : Value} {w : World} {Q : Value × World → Prop} (h : Brings (s4 x0 x1 w) Q) : Brings (Xcall Try.prog (Value.func (Fn.func 4) #[] #[]) #[x0, x1] w) Q :=
  h.call (Xcall_fn Try.func4 (by decide +kernel) (by rfl) _ _ _ w) fun _ h => c4 h

/-! lychgate/lychgatelaw07.TrackFirst -/
noncomputable def s5 (x0 : Value) (w : World) : Option (Value × World) :=
  (Xcall Try.prog (Value.func (Fn.func 12) #[] #[]) #[(Go.Value.int Go.IntKind.i64 0), (Go.Value.bool true), x0] w).bind fun r42 =>
  (Qext r42.1 0).bind fun _ =>
  (Qext r42.1 1).bind fun v44 =>
  (Xcall Try.prog (Value.func (Fn.func 14) #[] #[]) #[] r42.2).bind fun r45 =>
  (guardQ r45.1 true (Qun Go.UnOp.not (gv (isB r45.1 true) v44))).bind fun v46 =>
  (Qpick r45.1 v46 (Go.Value.bool false)).bind fun v47 =>
  some (v47, r45.2)
theorem s5eq (x0 : Value) (w : World) : evK Try.prog 5 none (bodyOf Try.f5) none _ { tmps := (([x0] : List Value) ++ List.replicate (15 - 1) undef).toArray, defers := [] } w (leaveK Try.prog Try.f5) = s5 x0 w := by kernel_rfl
theorem c5 {x0 : Value} {w : World} {r : Value × World} (h : s5 x0 w = some r) : C Try.prog 5 #[x0] w = some r :=
  C_ev follows_all drawLaw (by kernel_rfl) Try.func5 (by rfl) ((s5eq x0 w).trans h)
theorem e5 {x0 : Value} {w : World} {Q : Value × World → Prop} (h : Brings (s5 x0 w) Q) : Brings (Xcall Try.prog (Value.func (Fn.func 5) #[] #[]) #[x0] w) Q :=
  h.call (Xcall_fn Try.func5 (by decide +kernel) (by rfl) _ _ _ w) fun _ h => c5 h

/-! lychgate/lychgatelaw07.TrackResets -/
noncomputable def s6 (x0 x1 x2 : Value) (w : World) : Option (Value × World) :=
  (Qbin Try.prog Go.BinOp.or 5 x2 (Go.Value.int Go.IntKind.u8 4)).bind fun v48 =>
  (Xcall Try.prog (Value.func (Fn.func 12) #[] #[]) #[x0, x1, v48] w).bind fun r49 =>
  (Qext r49.1 0).bind fun v50 =>
  (Qext r49.1 1).bind fun v51 =>
  (Qbin Try.prog Go.BinOp.geq 22 x0 (Go.Value.int Go.IntKind.i64 1)).bind fun v52 =>
  (guardQ v52 true (Qbin Try.prog Go.BinOp.leq 22 (gv (isB v52 true) x0) (Go.Value.int Go.IntKind.i64 7))).bind fun v53 =>
  (Qpick v52 v53 (Go.Value.bool false)).bind fun v54 =>
  (Xcall Try.prog (Value.func (Fn.func 14) #[] #[]) #[] r49.2).bind fun r55 =>
  (guardQ r55.1 true (Qbin Try.prog Go.BinOp.eql 4 (gv (isB r55.1 true) v51) (gv (isB r55.1 true) v54))).bind fun v56 =>
  (Qpick r55.1 v56 (Go.Value.bool false)).bind fun v57 =>
  (guardQ v57 true (Qun Go.UnOp.not (gv (isB v57 true) v51))).bind fun v58 =>
  (guardQ (gv (isB v57 true) v58) false (Qbin Try.prog Go.BinOp.eql 22 (gv (isB (gv (isB v57 true) v58) false) v50) (Go.Value.int Go.IntKind.i64 7))).bind fun v59 =>
  (guardQ v57 true (Qpick (gv (isB v57 true) v58) (Go.Value.bool true) v59)).bind fun v60 =>
  (Qpick v57 v60 (Go.Value.bool false)).bind fun v61 =>
  some (v61, r55.2)
theorem s6eq (x0 x1 x2 : Value) (w : World) : evK Try.prog 6 none (bodyOf Try.f6) none _ { tmps := (([x0, x1, x2] : List Value) ++ List.replicate (38 - 3) undef).toArray, defers := [] } w (leaveK Try.prog Try.f6) = s6 x0 x1 x2 w := by kernel_rfl
theorem c6 {x0 x1 x2 : Value} {w : World} {r : Value × World} (h : s6 x0 x1 x2 w = some r) : C Try.prog 6 #[x0, x1, x2] w = some r :=
  C_ev follows_all drawLaw (by kernel_rfl) Try.func6 (by rfl) ((s6eq x0 x1 x2 w).trans h)
theorem e6 {x0 x1 x2 : Value} {w : World} {Q : Value × World → Prop} (h : Brings (s6 x0 x1 x2 w) Q) : Brings (Xcall Try.prog (Value.func (Fn.func 6) #[] #[]) #[x0, x1, x2] w) Q :=
  h.call (Xcall_fn Try.func6 (by decide +kernel) (by rfl) _ _ _ w) fun _ h => c6 h

/-! lychgate/lychgatelaw07.TrackOpen -/
noncomputable def s7K0 : Exit → Act → World → Option (Value × World) := seqK (fun a w => evK Try.prog 7 none (nav [1, 1, 1, 1] (bodyOf Try.f7)) none _ a w (leaveK Try.prog Try.f7)) (leaveK Try.prog Try.f7)
noncomputable def s7K1 : Exit → Act → World → Option (Value × World) := blockK 0 s7K0
noncomputable def s7L0 (s : List Value) (d : List Deferred) (w : World) : Option (Value × World) := loopN Try.prog 7 none (nav [1, 1, 1, 0, 1, 0, 0] (bodyOf Try.f7)) s7K1 s d w
noncomputable def s7M1 (s0 s1 s4 s6 s7 s8 : Value) (w : World) : Option (Exit × List Value × World) :=
  (Qbin Try.prog Go.BinOp.eql 22 s8 (Go.Value.int Go.IntKind.i64 3)).bind fun v100 =>
  (guardQ v100 true (Qun Go.UnOp.not (gv (isB v100 true) s6))).bind fun v101 =>
  (Qpick v100 v101 (Go.Value.bool false)).bind fun v102 =>
  (guardQ v102 false (Qbin Try.prog Go.BinOp.lss 22 (gv (isB v102 false) s8) (Go.Value.int Go.IntKind.i64 1))).bind fun v103 =>
  (Qpick v102 (Go.Value.bool true) v103).bind fun v104 =>
  (guardQ v104 false (Qbin Try.prog Go.BinOp.gtr 22 (gv (isB v104 false) s8) (Go.Value.int Go.IntKind.i64 7))).bind fun v105 =>
  (Qpick v104 (Go.Value.bool true) v105).bind fun v106 =>
  condK v106 (
    some (Exit.ret, [s0, s1, (Go.Value.bool false), s8, s6, s7], w)
  ) (
    (Qbin Try.prog Go.BinOp.add 3 s7 (Go.Value.int Go.IntKind.i64 1)).bind fun v107 =>
    some (Exit.normal, [s0, s1, s4, s8, s6, v107], w)
  )
noncomputable def s7K2 : Exit → Act → World → Option (Exit × List Value × World) := seqK (fun a w => evK Try.prog 7 none (nav [1, 1, 1, 0, 1, 0, 0, 1, 1] (bodyOf Try.f7)) none _ a w (projK [0, 1, 4, 5, 6, 7])) (projK [0, 1, 4, 5, 6, 7])
noncomputable def s7K3 : Exit → Act → World → Option (Exit × List Value × World) := blockK 1 s7K2
noncomputable def s7K4 : Exit → Act → World → Option (Exit × List Value × World) := seqK (fun a w => evK Try.prog 7 none (nav [1, 1, 1, 0, 1, 0, 0, 1, 0, 0, 1, 1, 1] (bodyOf Try.f7)) none _ a w s7K3) s7K3
noncomputable def s7J1 (s : List Value) (d : List Deferred) (w : World) : Option (Exit × List Value × World) := s7K4 .normal ⟨s.toArray, d⟩ w
noncomputable def s7B0raw (g : Nat → Value) (d : List Deferred) : List Value → World → Option (Exit × List Value × World)
  | [x0, x1, x4, x5, x6, x7], w =>
    (Qlen Try.prog #[29] 3 #[x0] w).bind fun v62 =>
    (Qbin Try.prog Go.BinOp.lss 3 x7 v62).bind fun v63 =>
    (guardQ v63 true (Qlen Try.prog #[30] 3 #[(gv (isB v63 true) x1)] w)).bind fun v64 =>
    (guardQ v63 true (Qbin Try.prog Go.BinOp.lss 3 (gv (isB v63 true) x7) v64)).bind fun v65 =>
    (Qpick v63 v65 (Go.Value.bool false)).bind fun v66 =>
    (guardQ v66 true (Qbin Try.prog Go.BinOp.lss 3 (gv (isB v66 true) x7) (Go.Value.int Go.IntKind.i64 40))).bind fun v67 =>
    (Qpick v66 v67 (Go.Value.bool false)).bind fun v68 =>
    condK v68 (
      (QindexAddr Try.prog 29 x0 x7 w.drew).bind fun v69 =>
      (Qload Try.prog 4 v69 w.drew).bind fun v70 =>
      (QindexAddr Try.prog 30 x1 x7 w.drew).bind fun v71 =>
      (Qload Try.prog 5 v71 w.drew).bind fun v72 =>
      (Xcall Try.prog (Value.func (Fn.func 12) #[] #[]) #[x5, v70, v72] w.drew).bind fun r73 =>
      (Qext r73.1 0).bind fun v74 =>
      (Qext r73.1 1).bind fun v75 =>
      chkK True (
        (Qun Go.UnOp.not v75).bind fun v76 =>
        condK v76 (
          (Qbin Try.prog Go.BinOp.add 3 x7 (Go.Value.int Go.IntKind.i64 1)).bind fun v77 =>
          some (Exit.normal, [x0, x1, x4, x5, x6, v77], r73.2)
        ) (
          (QindexAddr Try.prog 30 x1 x7 r73.2).bind fun v78 =>
          (Qload Try.prog 5 v78 r73.2).bind fun v79 =>
          (Qbin Try.prog Go.BinOp.and 5 v79 (Go.Value.int Go.IntKind.u8 2)).bind fun v80 =>
          (Qbin Try.prog Go.BinOp.neq 5 v80 (Go.Value.int Go.IntKind.u8 0)).bind fun v81 =>
          (guardQ v81 true (QindexAddr Try.prog 30 (gv (isB v81 true) x1) (gv (isB v81 true) x7) r73.2)).bind fun v82 =>
          (guardQ v81 true (Qload Try.prog 5 v82 r73.2)).bind fun v83 =>
          (guardQ v81 true (Qbin Try.prog Go.BinOp.and 5 v83 (Go.Value.int Go.IntKind.u8 4))).bind fun v84 =>
          (guardQ v81 true (Qbin Try.prog Go.BinOp.eql 5 v84 (Go.Value.int Go.IntKind.u8 0))).bind fun v85 =>
          (Qpick v81 v85 (Go.Value.bool false)).bind fun v86 =>
          condK v86 (
            (guardQ x6 true (Qbin Try.prog Go.BinOp.neq 22 (gv (isB x6 true) x5) (Go.Value.int Go.IntKind.i64 6))).bind fun v87 =>
            (Qpick x6 v87 (Go.Value.bool false)).bind fun v88 =>
            (guardQ v88 true (Qbin Try.prog Go.BinOp.neq 22 (gv (isB v88 true) x5) (Go.Value.int Go.IntKind.i64 7))).bind fun v89 =>
            (Qpick v88 v89 (Go.Value.bool false)).bind fun v90 =>
            (guardQ v90 false (QindexAddr Try.prog 29 (gv (isB v90 false) x0) (gv (isB v90 false) x7) r73.2)).bind fun v91 =>
            (guardQ v90 false (Qload Try.prog 4 v91 r73.2)).bind fun v92 =>
            (guardQ (gv (isB v90 false) v92) true (Qbin Try.prog Go.BinOp.eql 22 (gv (isB (gv (isB v90 false) v92) true) x5) (Go.Value.int Go.IntKind.i64 1))).bind fun v93 =>
            (guardQ v90 false (Qpick (gv (isB v90 false) v92) v93 (Go.Value.bool false))).bind fun v94 =>
            (Qpick v90 (Go.Value.bool true) v94).bind fun v95 =>
            (Qbin Try.prog Go.BinOp.eql 22 x5 (Go.Value.int Go.IntKind.i64 6)).bind fun v96 =>
            (guardQ v96 false (Qbin Try.prog Go.BinOp.eql 22 (gv (isB v96 false) x5) (Go.Value.int Go.IntKind.i64 7))).bind fun v97 =>
            (Qpick v96 (Go.Value.bool true) v97).bind fun v98 =>
            condK v98 (
              s7J1 [x0, x1, (g 2), (g 3), x4, x5, (Go.Value.bool false), x7, v74, v75, x7, x0, v62, v63, v63, (gv (isB v63 true) x7), (gv (isB v63 true) x1), v64, v65, v66, v66, (gv (isB v66 true) x7), v67, v68, (g 24), (g 25), r73.1, x5, x0, x7, v69, v70, x1, x7, v71, v72, r73.1, v74, v75, v75, v76, x1, x7, v78, v79, v80, v81, v81, (gv (isB v81 true) x1), (gv (isB v81 true) x7), v82, v83, v84, v85, v86, x6, x6, (gv (isB x6 true) x5), v87, v88, v88, (gv (isB v88 true) x5), v89, v90, v90, (gv (isB v90 false) x0), (gv (isB v90 false) x7), v91, v92, (gv (isB v90 false) v92), (gv (isB (gv (isB v90 false) v92) true) x5), v93, v94, v95, x5, v96, v96, (gv (isB v96 false) x5), v97, v98, (g 80), (g 81), (g 82), (g 83), (g 84), (g 85), (g 86), (g 87), (g 88), (g 89), (g 90), (g 91), (g 92), (g 93), (g 94), (g 95)] d r73.2
            ) (
              s7J1 [x0, x1, (g 2), (g 3), x4, x5, v95, x7, v74, v75, x7, x0, v62, v63, v63, (gv (isB v63 true) x7), (gv (isB v63 true) x1), v64, v65, v66, v66, (gv (isB v66 true) x7), v67, v68, (g 24), (g 25), r73.1, x5, x0, x7, v69, v70, x1, x7, v71, v72, r73.1, v74, v75, v75, v76, x1, x7, v78, v79, v80, v81, v81, (gv (isB v81 true) x1), (gv (isB v81 true) x7), v82, v83, v84, v85, v86, x6, x6, (gv (isB x6 true) x5), v87, v88, v88, (gv (isB v88 true) x5), v89, v90, v90, (gv (isB v90 false) x0), (gv (isB v90 false) x7), v91, v92, (gv (isB v90 false) v92), (gv (isB (gv (isB v90 false) v92) true) x5), v93, v94, v95, x5, v96, v96, (gv (isB v96 false) x5), v97, v98, (g 80), (g 81), (g 82), (g 83), (g 84), (g 85), (g 86), (g 87), (g 88), (g 89), (g 90), (g 91), (g 92), (g 93), (g 94), (g 95)] d r73.2
            )
          ) (
            s7J1 [x0, x1, (g 2), (g 3), x4, x5, x6, x7, v74, v75, x7, x0, v62, v63, v63, (gv (isB v63 true) x7), (gv (isB v63 true) x1), v64, v65, v66, v66, (gv (isB v66 true) x7), v67, v68, (g 24), (g 25), r73.1, x5, x0, x7, v69, v70, x1, x7, v71, v72, r73.1, v74, v75, v75, v76, x1, x7, v78, v79, v80, v81, v81, (gv (isB v81 true) x1), (gv (isB v81 true) x7), v82, v83, v84, v85, v86, (g 55), (g 56), (g 57), (g 58), (g 59), (g 60), (g 61), (g 62), (g 63), (g 64), (g 65), (g 66), (g 67), (g 68), (g 69), (g 70), (g 71), (g 72), (g 73), (g 74), (g 75), (g 76), (g 77), (g 78), (g 79), (g 80), (g 81), (g 82), (g 83), (g 84), (g 85), (g 86), (g 87), (g 88), (g 89), (g 90), (g 91), (g 92), (g 93), (g 94), (g 95)] d r73.2
          )
        )
      )
    ) (
      some ((Exit.exit 0), [x0, x1, x4, x5, x6, x7], w)
    )
  | _, _ => none
noncomputable def s7B0 : List Value → World → Option (Exit × List Value × World)
  | [x0, x1, x4, x5, x6, x7], w =>
    (Qlen Try.prog #[29] 3 #[x0] w).bind fun v62 =>
    (Qbin Try.prog Go.BinOp.lss 3 x7 v62).bind fun v63 =>
    (guardQ v63 true (Qlen Try.prog #[30] 3 #[(gv (isB v63 true) x1)] w)).bind fun v64 =>
    (guardQ v63 true (Qbin Try.prog Go.BinOp.lss 3 (gv (isB v63 true) x7) v64)).bind fun v65 =>
    (Qpick v63 v65 (Go.Value.bool false)).bind fun v66 =>
    (guardQ v66 true (Qbin Try.prog Go.BinOp.lss 3 (gv (isB v66 true) x7) (Go.Value.int Go.IntKind.i64 40))).bind fun v67 =>
    (Qpick v66 v67 (Go.Value.bool false)).bind fun v68 =>
    condK v68 (
      (QindexAddr Try.prog 29 x0 x7 w.drew).bind fun v69 =>
      (Qload Try.prog 4 v69 w.drew).bind fun v70 =>
      (QindexAddr Try.prog 30 x1 x7 w.drew).bind fun v71 =>
      (Qload Try.prog 5 v71 w.drew).bind fun v72 =>
      (Xcall Try.prog (Value.func (Fn.func 12) #[] #[]) #[x5, v70, v72] w.drew).bind fun r73 =>
      (Qext r73.1 0).bind fun v74 =>
      (Qext r73.1 1).bind fun v75 =>
      chkK True (
        (Qun Go.UnOp.not v75).bind fun v76 =>
        condK v76 (
          (Qbin Try.prog Go.BinOp.add 3 x7 (Go.Value.int Go.IntKind.i64 1)).bind fun v77 =>
          some (Exit.normal, [x0, x1, x4, x5, x6, v77], r73.2)
        ) (
          (QindexAddr Try.prog 30 x1 x7 r73.2).bind fun v78 =>
          (Qload Try.prog 5 v78 r73.2).bind fun v79 =>
          (Qbin Try.prog Go.BinOp.and 5 v79 (Go.Value.int Go.IntKind.u8 2)).bind fun v80 =>
          (Qbin Try.prog Go.BinOp.neq 5 v80 (Go.Value.int Go.IntKind.u8 0)).bind fun v81 =>
          (guardQ v81 true (QindexAddr Try.prog 30 (gv (isB v81 true) x1) (gv (isB v81 true) x7) r73.2)).bind fun v82 =>
          (guardQ v81 true (Qload Try.prog 5 v82 r73.2)).bind fun v83 =>
          (guardQ v81 true (Qbin Try.prog Go.BinOp.and 5 v83 (Go.Value.int Go.IntKind.u8 4))).bind fun v84 =>
          (guardQ v81 true (Qbin Try.prog Go.BinOp.eql 5 v84 (Go.Value.int Go.IntKind.u8 0))).bind fun v85 =>
          (Qpick v81 v85 (Go.Value.bool false)).bind fun v86 =>
          condK v86 (
            (guardQ x6 true (Qbin Try.prog Go.BinOp.neq 22 (gv (isB x6 true) x5) (Go.Value.int Go.IntKind.i64 6))).bind fun v87 =>
            (Qpick x6 v87 (Go.Value.bool false)).bind fun v88 =>
            (guardQ v88 true (Qbin Try.prog Go.BinOp.neq 22 (gv (isB v88 true) x5) (Go.Value.int Go.IntKind.i64 7))).bind fun v89 =>
            (Qpick v88 v89 (Go.Value.bool false)).bind fun v90 =>
            (guardQ v90 false (QindexAddr Try.prog 29 (gv (isB v90 false) x0) (gv (isB v90 false) x7) r73.2)).bind fun v91 =>
            (guardQ v90 false (Qload Try.prog 4 v91 r73.2)).bind fun v92 =>
            (guardQ (gv (isB v90 false) v92) true (Qbin Try.prog Go.BinOp.eql 22 (gv (isB (gv (isB v90 false) v92) true) x5) (Go.Value.int Go.IntKind.i64 1))).bind fun v93 =>
            (guardQ v90 false (Qpick (gv (isB v90 false) v92) v93 (Go.Value.bool false))).bind fun v94 =>
            (Qpick v90 (Go.Value.bool true) v94).bind fun v95 =>
            (Qbin Try.prog Go.BinOp.eql 22 x5 (Go.Value.int Go.IntKind.i64 6)).bind fun v96 =>
            (guardQ v96 false (Qbin Try.prog Go.BinOp.eql 22 (gv (isB v96 false) x5) (Go.Value.int Go.IntKind.i64 7))).bind fun v97 =>
            (Qpick v96 (Go.Value.bool true) v97).bind fun v98 =>
            condK v98 (
              s7M1 x0 x1 x4 (Go.Value.bool false) x7 v74 r73.2
            ) (
              s7M1 x0 x1 x4 v95 x7 v74 r73.2
            )
          ) (
            s7M1 x0 x1 x4 x6 x7 v74 r73.2
          )
        )
      )
    ) (
      some ((Exit.exit 0), [x0, x1, x4, x5, x6, x7], w)
    )
  | _, _ => none
noncomputable def s7R0 : Exit → List Value → World → Option (Value × World)
  | (Exit.exit 0), [_, _, _, _, _, _], w =>
    (Xcall Try.prog (Value.func (Fn.func 14) #[] #[]) #[] w).bind fun r99 =>
    some (r99.1, r99.2)
  | Exit.ret, [_, _, x4, _, _, _], w =>
    some (x4, w)
  | _, _, _ => none
noncomputable def s7raw (x0 x1 : Value) (w : World) : Option (Value × World) :=
  s7L0 [x0, x1, undef, undef, (Go.Value.bool false), (Go.Value.int Go.IntKind.i64 0), (Go.Value.bool false), (Go.Value.int Go.IntKind.i64 0), undef, undef, undef, undef, undef, undef, undef, undef, undef, undef, undef, undef, undef, undef, undef, undef, undef, undef, undef, undef, undef, undef, undef, undef, undef, undef, undef, undef, undef, undef, undef, undef, undef, undef, undef, undef, undef, undef, undef, undef, undef, undef, undef, undef, undef, undef, undef, undef, undef, undef, undef, undef, undef, undef, undef, undef, undef, undef, undef, undef, undef, undef, undef, undef, undef, undef, undef, undef, undef, undef, undef, undef, undef, undef, undef, undef, undef, undef, undef, undef, undef, undef, undef, undef, undef, undef, undef, undef] [] w
noncomputable def s7 (x0 x1 : Value) (w : World) : Option (Value × World) :=
  loopR s7B0 s7R0 [x0, x1, (Go.Value.bool false), (Go.Value.int Go.IntKind.i64 0), (Go.Value.bool false), (Go.Value.int Go.IntKind.i64 0)] w
theorem s7J1eq (s0 s1 s2 s3 s4 s5 s6 s7 s8 s9 s10 s11 s12 s13 s14 s15 s16 s17 s18 s19 s20 s21 s22 s23 s24 s25 s26 s27 s28 s29 s30 s31 s32 s33 s34 s35 s36 s37 s38 s39 s40 s41 s42 s43 s44 s45 s46 s47 s48 s49 s50 s51 s52 s53 s54 s55 s56 s57 s58 s59 s60 s61 s62 s63 s64 s65 s66 s67 s68 s69 s70 s71 s72 s73 s74 s75 s76 s77 s78 s79 s80 s81 s82 s83 s84 s85 s86 s87 s88 s89 s90 s91 s92 s93 s94 s95 : Value) (w : World) : s7J1 [s0, s1, s2, s3, s4, s5, s6, s7, s8, s9, s10, s11, s12, s13, s14, s15, s16, s17, s18, s19, s20, s21, s22, s23, s24, s25, s26, s27, s28, s29, s30, s31, s32, s33, s34, s35, s36, s37, s38, s39, s40, s41, s42, s43, s44, s45, s46, s47, s48, s49, s50, s51, s52, s53, s54, s55, s56, s57, s58, s59, s60, s61, s62, s63, s64, s65, s66, s67, s68, s69, s70, s71, s72, s73, s74, s75, s76, s77, s78, s79, s80, s81, s82, s83, s84, s85, s86, s87, s88, s89, s90, s91, s92, s93, s94, s95] [] w = s7M1 s0 s1 s4 s6 s7 s8 w := by kernel_rfl
theorem s7J1of {s0 s1 s2 s3 s4 s5 s6 s7 s8 s9 s10 s11 s12 s13 s14 s15 s16 s17 s18 s19 s20 s21 s22 s23 s24 s25 s26 s27 s28 s29 s30 s31 s32 s33 s34 s35 s36 s37 s38 s39 s40 s41 s42 s43 s44 s45 s46 s47 s48 s49 s50 s51 s52 s53 s54 s55 s56 s57 s58 s59 s60 s61 s62 s63 s64 s65 s66 s67 s68 s69 s70 s71 s72 s73 s74 s75 s76 s77 s78 s79 s80 s81 s82 s83 s84 s85 s86 s87 s88 s89 s90 s91 s92 s93 s94 s95 : Value} {w : World} {r : _} (h : s7M1 s0 s1 s4 s6 s7 s8 w = some r) : s7J1 [s0, s1, s2, s3, s4, s5, s6, s7, s8, s9, s10, s11, s12, s13, s14, s15, s16, s17, s18, s19, s20, s21, s22, s23, s24, s25, s26, s27, s28, s29, s30, s31, s32, s33, s34, s35, s36, s37, s38, s39, s40, s41, s42, s43, s44, s45, s46, s47, s48, s49, s50, s51, s52, s53, s54, s55, s56, s57, s58, s59, s60, s61, s62, s63, s64, s65, s66, s67, s68, s69, s70, s71, s72, s73, s74, s75, s76, s77, s78, s79, s80, s81, s82, s83, s84, s85, s86, s87, s88, s89, s90, s91, s92, s93, s94, s95] [] w = some r :=
  ((s7J1eq s0 s1 s2 s3 s4 s5 s6 s7 s8 s9 s10 s11 s12 s13 s14 s15 s16 s17 s18 s19 s20 s21 s22 s23 s24 s25 s26 s27 s28 s29 s30 s31 s32 s33 s34 s35 s36 s37 s38 s39 s40 s41 s42 s43 s44 s45 s46 s47 s48 s49 s50 s51 s52 s53 s54 s55 s56 s57 s58 s59 s60 s61 s62 s63 s64 s65 s66 s67 s68 s69 s70 s71 s72 s73 s74 s75 s76 s77 s78 s79 s80 s81 s82 s83 s84 s85 s86 s87 s88 s89 s90 s91 s92 s93 s94 s95 w).trans h)
theorem s7B0eq (x0 x1 x4 x5 x6 x7 : Value) (w : World) (g : Nat → Value) (d : List Deferred) : evK Try.prog 7 none (nav [1, 1, 1, 0, 1, 0, 0] (bodyOf Try.f7)) none _ (frm 96 (setL [0, 1, 4, 5, 6, 7] [x0, x1, x4, x5, x6, x7] g) d) w (projK [0, 1, 4, 5, 6, 7]) = s7B0raw g d [x0, x1, x4, x5, x6, x7] w := by kernel_rfl
theorem s7R0x0eq (x0 x1 x4 x5 x6 x7 : Value) (g : Nat → Value) (w : World) : s7K1 (Exit.exit 0) (frm 96 (setL [0, 1, 4, 5, 6, 7] [x0, x1, x4, x5, x6, x7] g) []) w = s7R0 (Exit.exit 0) [x0, x1, x4, x5, x6, x7] w := by kernel_rfl
theorem s7R0ret_eq (x0 x1 x4 x5 x6 x7 : Value) (g : Nat → Value) (w : World) : s7K1 Exit.ret (frm 96 (setL [0, 1, 4, 5, 6, 7] [x0, x1, x4, x5, x6, x7] g) []) w = s7R0 Exit.ret [x0, x1, x4, x5, x6, x7] w := by kernel_rfl
theorem s7R0of : ∀ (e : Exit) (xs : List Value) (w : World) (g : Nat → Value) (y : _), s7R0 e xs w = some y → s7K1 e (frm 96 (setL [0, 1, 4, 5, 6, 7] xs g) []) w = some y := by
  intro e xs w g y h
  unfold s7R0 at h
  split at h
  · exact (s7R0x0eq _ _ _ _ _ _ g _).trans h
  · exact (s7R0ret_eq _ _ _ _ _ _ g _).trans h
  · cases h
theorem s7L0of {s0 s1 s2 s3 s4 s5 s6 s7 s8 s9 s10 s11 s12 s13 s14 s15 s16 s17 s18 s19 s20 s21 s22 s23 s24 s25 s26 s27 s28 s29 s30 s31 s32 s33 s34 s35 s36 s37 s38 s39 s40 s41 s42 s43 s44 s45 s46 s47 s48 s49 s50 s51 s52 s53 s54 s55 s56 s57 s58 s59 s60 s61 s62 s63 s64 s65 s66 s67 s68 s69 s70 s71 s72 s73 s74 s75 s76 s77 s78 s79 s80 s81 s82 s83 s84 s85 s86 s87 s88 s89 s90 s91 s92 s93 s94 s95 : Value} {w : World} {r : _} (h : loopR s7B0 s7R0 [s0, s1, s4, s5, s6, s7] w = some r) : s7L0 [s0, s1, s2, s3, s4, s5, s6, s7, s8, s9, s10, s11, s12, s13, s14, s15, s16, s17, s18, s19, s20, s21, s22, s23, s24, s25, s26, s27, s28, s29, s30, s31, s32, s33, s34, s35, s36, s37, s38, s39, s40, s41, s42, s43, s44, s45, s46, s47, s48, s49, s50, s51, s52, s53, s54, s55, s56, s57, s58, s59, s60, s61, s62, s63, s64, s65, s66, s67, s68, s69, s70, s71, s72, s73, s74, s75, s76, s77, s78, s79, s80, s81, s82, s83, s84, s85, s86, s87, s88, s89, s90, s91, s92, s93, s94, s95] [] w = some r :=
  loopN_of (B := s7B0) (R := s7R0) (n := 96) (live := [0, 1, 4, 5, 6, 7]) (fun xs w g y hl h => match xs, hl, h with | [x0, x1, x4, x5, x6, x7], _, h => (s7B0eq x0 x1 x4 x5 x6 x7 w g []).trans (show s7B0raw g [] [x0, x1, x4, x5, x6, x7] w = some y from (Ev.bind_mono fun _ => (Ev.bind_mono fun _ => (Ev.bind_mono fun _ => (Ev.bind_mono fun _ => (Ev.bind_mono fun _ => (Ev.bind_mono fun _ => (Ev.bind_mono fun _ => (condK_mono (Ev.bind_mono fun _ => (Ev.bind_mono fun _ => (Ev.bind_mono fun _ => (Ev.bind_mono fun _ => (Ev.bind_mono fun _ => (Ev.bind_mono fun _ => (Ev.bind_mono fun _ => (chkK_mono (Ev.bind_mono fun _ => (condK_mono id (Ev.bind_mono fun _ => (Ev.bind_mono fun _ => (Ev.bind_mono fun _ => (Ev.bind_mono fun _ => (Ev.bind_mono fun _ => (Ev.bind_mono fun _ => (Ev.bind_mono fun _ => (Ev.bind_mono fun _ => (Ev.bind_mono fun _ => (condK_mono (Ev.bind_mono fun _ => (Ev.bind_mono fun _ => (Ev.bind_mono fun _ => (Ev.bind_mono fun _ => (Ev.bind_mono fun _ => (Ev.bind_mono fun _ => (Ev.bind_mono fun _ => (Ev.bind_mono fun _ => (Ev.bind_mono fun _ => (Ev.bind_mono fun _ => (Ev.bind_mono fun _ => (Ev.bind_mono fun _ => (condK_mono (s7J1of) (s7J1of)))))))))))))) (s7J1of))))))))))))))))))))) id)))))))) h)) (by kernel_rfl) (s7R0of) (fun i => ([s0, s1, s2, s3, s4, s5, s6, s7, s8, s9, s10, s11, s12, s13, s14, s15, s16, s17, s18, s19, s20, s21, s22, s23, s24, s25, s26, s27, s28, s29, s30, s31, s32, s33, s34, s35, s36, s37, s38, s39, s40, s41, s42, s43, s44, s45, s46, s47, s48, s49, s50, s51, s52, s53, s54, s55, s56, s57, s58, s59, s60, s61, s62, s63, s64, s65, s66, s67, s68, s69, s70, s71, s72, s73, s74, s75, s76, s77, s78, s79, s80, s81, s82, s83, s84, s85, s86, s87, s88, s89, s90, s91, s92, s93, s94, s95] : List Value).getD i undef) (by kernel_rfl) rfl h
theorem s7eq (x0 x1 : Value) (w : World) : evK Try.prog 7 none (bodyOf Try.f7) none _ { tmps := (([x0, x1] : List Value) ++ List.replicate (96 - 2) undef).toArray, defers := [] } w (leaveK Try.prog Try.f7) = s7raw x0 x1 w := by kernel_rfl
theorem c7 {x0 x1 : Value} {w : World} {r : Value × World} (h : s7 x0 x1 w = some r) : C Try.prog 7 #[x0, x1] w = some r :=
  C_ev follows_all drawLaw (by kernel_rfl) Try.func7 (by rfl) ((s7eq x0 x1 w).trans (show s7raw x0 x1 w = some r from (s7L0of) h))
theorem e7 {x0 x1 : Value} {w : World} {Q : Value × World → Prop} (h : Brings (s7 x0 x1 w) Q) : Brings (Xcall Try.prog (Value.func (Fn.func 7) #[] #[]) #[x0, x1] w) Q :=
  h.call (Xcall_fn Try.func7 (by decide +kernel) (by rfl) _ _ _ w) fun _ h => c7 h

/-! lychgate/lychgatelaw07.TrackPlain -/
noncomputable def s8 (x0 x1 x2 : Value) (w : World) : Option (Value × World) :=
  (Xbox Try.prog 32 x2 w).bind fun r108 =>
  (QindexAddr Try.prog 32 r108.1 (Go.Value.int Go.IntKind.i64 0) r108.2).bind fun v109 =>
  (Qload Try.prog 5 v109 r108.2).bind fun v110 =>
  (Qbin Try.prog Go.BinOp.and 5 v110 (Go.Value.int Go.IntKind.u8 23)).bind fun v111 =>
  (QindexAddr Try.prog 32 r108.1 (Go.Value.int Go.IntKind.i64 1) r108.2).bind fun v112 =>
  (Qload Try.prog 5 v112 r108.2).bind fun v113 =>
  (Qbin Try.prog Go.BinOp.andNot 5 v113 (Go.Value.int Go.IntKind.u8 23)).bind fun v114 =>
  (Qbin Try.prog Go.BinOp.or 5 v111 v114).bind fun v115 =>
  (QindexAddr Try.prog 32 r108.1 (Go.Value.int Go.IntKind.i64 0) r108.2).bind fun v116 =>
  (Qload Try.prog 5 v116 r108.2).bind fun v117 =>
  (Xcall Try.prog (Value.func (Fn.func 12) #[] #[]) #[x0, x1, v117] r108.2).bind fun r118 =>
  (Qext r118.1 0).bind fun v119 =>
  (Qext r118.1 1).bind fun v120 =>
  (Xcall Try.prog (Value.func (Fn.func 12) #[] #[]) #[x0, x1, v115] r118.2).bind fun r121 =>
  (Qext r121.1 0).bind fun v122 =>
  (Qext r121.1 1).bind fun v123 =>
  (Xcall Try.prog (Value.func (Fn.func 14) #[] #[]) #[] r121.2).bind fun r124 =>
  (guardQ r124.1 true (Qbin Try.prog Go.BinOp.eql 22 (gv (isB r124.1 true) v119) (gv (isB r124.1 true) v122))).bind fun v125 =>
  (Qpick r124.1 v125 (Go.Value.bool false)).bind fun v126 =>
  (guardQ v126 true (Qbin Try.prog Go.BinOp.eql 4 (gv (isB v126 true) v120) (gv (isB v126 true) v123))).bind fun v127 =>
  (Qpick v126 v127 (Go.Value.bool false)).bind fun v128 =>
  (guardQ v128 true (QindexAddr Try.prog 32 r108.1 (Go.Value.int Go.IntKind.i64 0) r124.2)).bind fun v129 =>
  (guardQ v128 true (Qload Try.prog 5 v129 r124.2)).bind fun v130 =>
  (guardX v128 true r124.2 (Xcall Try.prog (Value.func (Fn.func 15) #[] #[]) #[v130] r124.2)).bind fun r131 =>
  (guardX v128 true r131.2 (Xcall Try.prog (Value.func (Fn.func 15) #[] #[]) #[(gv (isB v128 true) v115)] r131.2)).bind fun r132 =>
  (guardQ v128 true (Qbin Try.prog Go.BinOp.eql 4 r131.1 r132.1)).bind fun v133 =>
  (Qpick v128 v133 (Go.Value.bool false)).bind fun v134 =>
  some (v134, r132.2)
theorem s8eq (x0 x1 x2 : Value) (w : World) : evK Try.prog 8 none (bodyOf Try.f8) none _ { tmps := (([x0, x1, x2] : List Value) ++ List.replicate (53 - 3) undef).toArray, defers := [] } w (leaveK Try.prog Try.f8) = s8 x0 x1 x2 w := by kernel_rfl
theorem c8 {x0 x1 x2 : Value} {w : World} {r : Value × World} (h : s8 x0 x1 x2 w = some r) : C Try.prog 8 #[x0, x1, x2] w = some r :=
  C_ev follows_all drawLaw (by kernel_rfl) Try.func8 (by rfl) ((s8eq x0 x1 x2 w).trans h)
theorem e8 {x0 x1 x2 : Value} {w : World} {Q : Value × World → Prop} (h : Brings (s8 x0 x1 x2 w) Q) : Brings (Xcall Try.prog (Value.func (Fn.func 8) #[] #[]) #[x0, x1, x2] w) Q :=
  h.call (Xcall_fn Try.func8 (by decide +kernel) (by rfl) _ _ _ w) fun _ h => c8 h

/-! lychgate/lychgatelaw07.TrackLives -/
noncomputable def s9K0 : Exit → Act → World → Option (Value × World) := seqK (fun a w => evK Try.prog 9 none (nav [1, 1, 1] (bodyOf Try.f9)) none _ a w (leaveK Try.prog Try.f9)) (leaveK Try.prog Try.f9)
noncomputable def s9K1 : Exit → Act → World → Option (Value × World) := blockK 0 s9K0
noncomputable def s9L0 (s : List Value) (d : List Deferred) (w : World) : Option (Value × World) := loopN Try.prog 9 none (nav [1, 1, 0, 1, 0, 0] (bodyOf Try.f9)) s9K1 s d w
noncomputable def s9B0 : List Value → World → Option (Exit × List Value × World)
  | [x0, x1, x4, x5, x6], w =>
    (Qlen Try.prog #[29] 3 #[x0] w).bind fun v135 =>
    (Qbin Try.prog Go.BinOp.lss 3 x6 v135).bind fun v136 =>
    (guardQ v136 true (Qlen Try.prog #[30] 3 #[(gv (isB v136 true) x1)] w)).bind fun v137 =>
    (guardQ v136 true (Qbin Try.prog Go.BinOp.lss 3 (gv (isB v136 true) x6) v137)).bind fun v138 =>
    (Qpick v136 v138 (Go.Value.bool false)).bind fun v139 =>
    (guardQ v139 true (Qbin Try.prog Go.BinOp.lss 3 (gv (isB v139 true) x6) (Go.Value.int Go.IntKind.i64 40))).bind fun v140 =>
    (Qpick v139 v140 (Go.Value.bool false)).bind fun v141 =>
    condK v141 (
      (QindexAddr Try.prog 29 x0 x6 w.drew).bind fun v142 =>
      (Qload Try.prog 4 v142 w.drew).bind fun v143 =>
      (QindexAddr Try.prog 30 x1 x6 w.drew).bind fun v144 =>
      (Qload Try.prog 5 v144 w.drew).bind fun v145 =>
      (Xcall Try.prog (Value.func (Fn.func 12) #[] #[]) #[x5, v143, v145] w.drew).bind fun r146 =>
      (Qext r146.1 0).bind fun v147 =>
      (Qext r146.1 1).bind fun v148 =>
      chkK True (
        (Qun Go.UnOp.not v148).bind fun v149 =>
        condK v149 (
          (Qbin Try.prog Go.BinOp.neq 22 v147 (Go.Value.int Go.IntKind.i64 0)).bind fun v150 =>
          condK v150 (
            some (Exit.ret, [x0, x1, (Go.Value.bool false), x5, x6], r146.2)
          ) (
            (Qbin Try.prog Go.BinOp.add 3 x6 (Go.Value.int Go.IntKind.i64 1)).bind fun v151 =>
            some (Exit.normal, [x0, x1, x4, x5, v151], r146.2)
          )
        ) (
          (Xcall Try.prog (Value.func (Fn.func 17) #[] #[]) #[v147] r146.2).bind fun r152 =>
          (Qun Go.UnOp.not r152.1).bind fun v153 =>
          (guardQ v153 true (Qbin Try.prog Go.BinOp.neq 22 (gv (isB v153 true) v147) (Go.Value.int Go.IntKind.i64 7))).bind fun v154 =>
          (Qpick v153 v154 (Go.Value.bool false)).bind fun v155 =>
          (guardX v155 false r152.2 (Xcall Try.prog (Value.func (Fn.func 18) #[] #[]) #[(Go.Value.int Go.IntKind.u8 6), (gv (isB v155 false) v147)] r152.2)).bind fun r156 =>
          (guardQ v155 false (Qbin Try.prog Go.BinOp.leq 3 r156.1 (Go.Value.int Go.IntKind.i64 0))).bind fun v157 =>
          (Qpick v155 (Go.Value.bool true) v157).bind fun v158 =>
          condK v158 (
            some (Exit.ret, [x0, x1, (Go.Value.bool false), v147, x6], r156.2)
          ) (
            (Qbin Try.prog Go.BinOp.add 3 x6 (Go.Value.int Go.IntKind.i64 1)).bind fun v159 =>
            some (Exit.normal, [x0, x1, x4, v147, v159], r156.2)
          )
        )
      )
    ) (
      some ((Exit.exit 0), [x0, x1, x4, x5, x6], w)
    )
  | _, _ => none
noncomputable def s9R0 : Exit → List Value → World → Option (Value × World)
  | (Exit.exit 0), [_, _, _, x5, _], w =>
    (Xcall Try.prog (Value.func (Fn.func 14) #[] #[]) #[] w).bind fun r160 =>
    (guardX r160.1 true r160.2 (Xcall Try.prog (Value.func (Fn.func 17) #[] #[]) #[(gv (isB r160.1 true) x5)] r160.2)).bind fun r161 =>
    (guardQ r160.1 true (Qbin Try.prog Go.BinOp.neq 22 (gv (isB r160.1 true) x5) (Go.Value.int Go.IntKind.i64 0))).bind fun v162 =>
    (guardQ (gv (isB r160.1 true) v162) true (Qbin Try.prog Go.BinOp.neq 22 (gv (isB (gv (isB r160.1 true) v162) true) x5) (Go.Value.int Go.IntKind.i64 7))).bind fun v163 =>
    (guardQ r160.1 true (Qpick (gv (isB r160.1 true) v162) v163 (Go.Value.bool false))).bind fun v164 =>
    (guardQ r160.1 true (Qbin Try.prog Go.BinOp.eql 4 r161.1 v164)).bind fun v165 =>
    (Qpick r160.1 v165 (Go.Value.bool false)).bind fun v166 =>
    some (v166, r161.2)
  | Exit.ret, [_, _, x4, _, _], w =>
    some (x4, w)
  | _, _, _ => none
noncomputable def s9raw (x0 x1 : Value) (w : World) : Option (Value × World) :=
  s9L0 [x0, x1, undef, undef, (Go.Value.bool false), (Go.Value.int Go.IntKind.i64 0), (Go.Value.int Go.IntKind.i64 0), undef, undef, undef, undef, undef, undef, undef, undef, undef, undef, undef, undef, undef, undef, undef, undef, undef, undef, undef, undef, undef, undef, undef, undef, undef, undef, undef, undef, undef, undef, undef, undef, undef, undef, undef, undef, undef, undef, undef, undef, undef, undef, undef, undef, undef, undef, undef, undef, undef, undef, undef, undef, undef, undef, undef, undef, undef, undef, undef, undef] [] w
noncomputable def s9 (x0 x1 : Value) (w : World) : Option (Value × World) :=
  loopR s9B0 s9R0 [x0, x1, (Go.Value.bool false), (Go.Value.int Go.IntKind.i64 0), (Go.Value.int Go.IntKind.i64 0)] w
theorem s9B0eq (x0 x1 x4 x5 x6 : Value) (w : World) (g : Nat → Value) (d : List Deferred) : evK Try.prog 9 none (nav [1, 1, 0, 1, 0, 0] (bodyOf Try.f9)) none _ (frm 67 (setL [0, 1, 4, 5, 6] [x0, x1, x4, x5, x6] g) d) w (projK [0, 1, 4, 5, 6]) = s9B0 [x0, x1, x4, x5, x6] w := by kernel_rfl
theorem s9R0x0eq (x0 x1 x4 x5 x6 : Value) (g : Nat → Value) (w : World) : s9K1 (Exit.exit 0) (frm 67 (setL [0, 1, 4, 5, 6] [x0, x1, x4, x5, x6] g) []) w = s9R0 (Exit.exit 0) [x0, x1, x4, x5, x6] w := by kernel_rfl
theorem s9R0ret_eq (x0 x1 x4 x5 x6 : Value) (g : Nat → Value) (w : World) : s9K1 Exit.ret (frm 67 (setL [0, 1, 4, 5, 6] [x0, x1, x4, x5, x6] g) []) w = s9R0 Exit.ret [x0, x1, x4, x5, x6] w := by kernel_rfl
theorem s9R0of : ∀ (e : Exit) (xs : List Value) (w : World) (g : Nat → Value) (y : _), s9R0 e xs w = some y → s9K1 e (frm 67 (setL [0, 1, 4, 5, 6] xs g) []) w = some y := by
  intro e xs w g y h
  unfold s9R0 at h
  split at h
  · exact (s9R0x0eq _ _ _ _ _ g _).trans h
  · exact (s9R0ret_eq _ _ _ _ _ g _).trans h
  · cases h
theorem s9L0of {s0 s1 s2 s3 s4 s5 s6 s7 s8 s9 s10 s11 s12 s13 s14 s15 s16 s17 s18 s19 s20 s21 s22 s23 s24 s25 s26 s27 s28 s29 s30 s31 s32 s33 s34 s35 s36 s37 s38 s39 s40 s41 s42 s43 s44 s45 s46 s47 s48 s49 s50 s51 s52 s53 s54 s55 s56 s57 s58 s59 s60 s61 s62 s63 s64 s65 s66 : Value} {w : World} {r : _} (h : loopR s9B0 s9R0 [s0, s1, s4, s5, s6] w = some r) : s9L0 [s0, s1, s2, s3, s4, s5, s6, s7, s8, s9, s10, s11, s12, s13, s14, s15, s16, s17, s18, s19, s20, s21, s22, s23, s24, s25, s26, s27, s28, s29, s30, s31, s32, s33, s34, s35, s36, s37, s38, s39, s40, s41, s42, s43, s44, s45, s46, s47, s48, s49, s50, s51, s52, s53, s54, s55, s56, s57, s58, s59, s60, s61, s62, s63, s64, s65, s66] [] w = some r :=
  loopN_of (B := s9B0) (R := s9R0) (n := 67) (live := [0, 1, 4, 5, 6]) (fun xs w g y hl h => match xs, hl, h with | [x0, x1, x4, x5, x6], _, h => (s9B0eq x0 x1 x4 x5 x6 w g []).trans h) (by kernel_rfl) (s9R0of) (fun i => ([s0, s1, s2, s3, s4, s5, s6, s7, s8, s9, s10, s11, s12, s13, s14, s15, s16, s17, s18, s19, s20, s21, s22, s23, s24, s25, s26, s27, s28, s29, s30, s31, s32, s33, s34, s35, s36, s37, s38, s39, s40, s41, s42, s43, s44, s45, s46, s47, s48, s49, s50, s51, s52, s53, s54, s55, s56, s57, s58, s59, s60, s61, s62, s63, s64, s65, s66] : List Value).getD i undef) (by kernel_rfl) rfl h
theorem s9eq (x0 x1 : Value) (w : World) : evK Try.prog 9 none (bodyOf Try.f9) none _ { tmps := (([x0, x1] : List Value) ++ List.replicate (67 - 2) undef).toArray, defers := [] } w (leaveK Try.prog Try.f9) = s9raw x0 x1 w := by kernel_rfl
theorem c9 {x0 x1 : Value} {w : World} {r : Value × World} (h : s9 x0 x1 w = some r) : C Try.prog 9 #[x0, x1] w = some r :=
  C_ev follows_all drawLaw (by kernel_rfl) Try.func9 (by rfl) ((s9eq x0 x1 w).trans (show s9raw x0 x1 w = some r from (s9L0of) h))
theorem e9 {x0 x1 : Value} {w : World} {Q : Value × World → Prop} (h : Brings (s9 x0 x1 w) Q) : Brings (Xcall Try.prog (Value.func (Fn.func 9) #[] #[]) #[x0, x1] w) Q :=
  h.call (Xcall_fn Try.func9 (by decide +kernel) (by rfl) _ _ _ w) fun _ h => c9 h

/-! lychgate/lychgatelaw07.TrackOther -/
noncomputable def s10 (x0 x1 x2 : Value) (w : World) : Option (Value × World) :=
  (Xcall Try.prog (Value.func (Fn.func 14) #[] #[]) #[] w).bind fun r167 =>
  (guardX r167.1 true r167.2 (Xcall Try.prog (Value.func (Fn.func 19) #[] #[]) #[(gv (isB r167.1 true) x1), (gv (isB r167.1 true) x2)] r167.2)).bind fun r168 =>
  (guardX r167.1 true r168.2 (Xcall Try.prog (Value.func (Fn.func 20) #[] #[]) #[(gv (isB r167.1 true) x1), (gv (isB r167.1 true) x2)] r168.2)).bind fun r169 =>
  (guardQ r167.1 true (Qbin Try.prog Go.BinOp.eql 22 r168.1 r169.1)).bind fun v170 =>
  (Qpick r167.1 v170 (Go.Value.bool false)).bind fun v171 =>
  (guardX v171 true r169.2 (Xcall Try.prog (Value.func (Fn.func 18) #[] #[]) #[(gv (isB v171 true) x0), (gv (isB v171 true) x1)] r169.2)).bind fun r172 =>
  (guardX v171 true r172.2 (Xcall Try.prog (Value.func (Fn.func 21) #[] #[]) #[(gv (isB v171 true) x0), (gv (isB v171 true) x1)] r172.2)).bind fun r173 =>
  (guardQ v171 true (Qbin Try.prog Go.BinOp.eql 3 r172.1 r173.1)).bind fun v174 =>
  (Qpick v171 v174 (Go.Value.bool false)).bind fun v175 =>
  (guardX v175 true r173.2 (Xcall Try.prog (Value.func (Fn.func 17) #[] #[]) #[(gv (isB v175 true) x1)] r173.2)).bind fun r176 =>
  (guardX v175 true r176.2 (Xcall Try.prog (Value.func (Fn.func 22) #[] #[]) #[(gv (isB v175 true) x1)] r176.2)).bind fun r177 =>
  (guardQ v175 true (Qbin Try.prog Go.BinOp.eql 4 r176.1 r177.1)).bind fun v178 =>
  (Qpick v175 v178 (Go.Value.bool false)).bind fun v179 =>
  some (v179, r177.2)
theorem s10eq (x0 x1 x2 : Value) (w : World) : evK Try.prog 10 none (bodyOf Try.f10) none _ { tmps := (([x0, x1, x2] : List Value) ++ List.replicate (33 - 3) undef).toArray, defers := [] } w (leaveK Try.prog Try.f10) = s10 x0 x1 x2 w := by kernel_rfl
theorem c10 {x0 x1 x2 : Value} {w : World} {r : Value × World} (h : s10 x0 x1 x2 w = some r) : C Try.prog 10 #[x0, x1, x2] w = some r :=
  C_ev follows_all drawLaw (by kernel_rfl) Try.func10 (by rfl) ((s10eq x0 x1 x2 w).trans h)
theorem e10 {x0 x1 x2 : Value} {w : World} {Q : Value × World → Prop} (h : Brings (s10 x0 x1 x2 w) Q) : Brings (Xcall Try.prog (Value.func (Fn.func 10) #[] #[]) #[x0, x1, x2] w) Q :=
  h.call (Xcall_fn Try.func10 (by decide +kernel) (by rfl) _ _ _ w) fun _ h => c10 h

/-! lychgate/lychgatetop.TopHandshake -/
noncomputable def s11K0 : Exit → Act → World → Option (Value × World) := seqK (fun a w => evK Try.prog 11 none (nav [1, 1, 1, 1, 1, 1] (bodyOf Try.f11)) none _ a w (leaveK Try.prog Try.f11)) (leaveK Try.prog Try.f11)
noncomputable def s11K1 : Exit → Act → World → Option (Value × World) := blockK 0 s11K0
noncomputable def s11L0 (s : List Value) (d : List Deferred) (w : World) : Option (Value × World) := loopN Try.prog 11 none (nav [1, 1, 1, 1, 1, 0, 1, 0, 0] (bodyOf Try.f11)) s11K1 s d w
noncomputable def s11B0 : List Value → World → Option (Exit × List Value × World)
  | [x0, x2, x3, x4, x7], w =>
    (Qlen Try.prog #[29] 3 #[x0] w).bind fun v196 =>
    (Qbin Try.prog Go.BinOp.lss 3 x7 v196).bind fun v197 =>
    (guardQ v197 true (Qbin Try.prog Go.BinOp.lss 3 (gv (isB v197 true) x7) (Go.Value.int Go.IntKind.i64 30))).bind fun v198 =>
    (Qpick v197 v198 (Go.Value.bool false)).bind fun v199 =>
    condK v199 (
      (QindexAddr Try.prog 29 x0 x7 w).bind fun v200 =>
      (Qload Try.prog 4 v200 w).bind fun v201 =>
      (Xcall Try.prog (Value.func (Fn.func 12) #[] #[]) #[x3, v201, (Go.Value.int Go.IntKind.u8 24)] w).bind fun r202 =>
      (Qext r202.1 0).bind fun v203 =>
      (Qext r202.1 1).bind fun v204 =>
      (Qun Go.UnOp.not v204).bind fun v205 =>
      (guardQ v205 false (Qbin Try.prog Go.BinOp.neq 22 (gv (isB v205 false) v203) (Go.Value.int Go.IntKind.i64 3))).bind fun v206 =>
      (Qpick v205 (Go.Value.bool true) v206).bind fun v207 =>
      condK v207 (
        some (Exit.ret, [x0, (Go.Value.bool false), x3, x4, x7], r202.2)
      ) (
        (Qbin Try.prog Go.BinOp.add 3 x7 (Go.Value.int Go.IntKind.i64 1)).bind fun v208 =>
        some (Exit.normal, [x0, x2, v203, x4, v208], r202.2)
      )
    ) (
      some ((Exit.exit 0), [x0, x2, x3, x4, x7], w)
    )
  | _, _ => none
noncomputable def s11R0 : Exit → List Value → World → Option (Value × World)
  | (Exit.exit 0), [_, _, x3, x4, _], w =>
    (Xcall Try.prog (Value.func (Fn.func 12) #[] #[]) #[x3, (Go.Value.bool false), (Go.Value.int Go.IntKind.u8 17)] w).bind fun r209 =>
    (Qext r209.1 0).bind fun v210 =>
    (Qext r209.1 1).bind fun v211 =>
    (Xcall Try.prog (Value.func (Fn.func 12) #[] #[]) #[v210, (Go.Value.bool true), (Go.Value.int Go.IntKind.u8 17)] r209.2).bind fun r212 =>
    (Qext r212.1 0).bind fun v213 =>
    (Qext r212.1 1).bind fun v214 =>
    (Xcall Try.prog (Value.func (Fn.func 12) #[] #[]) #[v213, (Go.Value.bool false), (Go.Value.int Go.IntKind.u8 16)] r212.2).bind fun r215 =>
    (Qext r215.1 0).bind fun v216 =>
    (Qext r215.1 1).bind fun v217 =>
    (guardQ x4 true (Qbin Try.prog Go.BinOp.eql 22 (gv (isB x4 true) x3) (Go.Value.int Go.IntKind.i64 3))).bind fun v218 =>
    (Qpick x4 v218 (Go.Value.bool false)).bind fun v219 =>
    (Qpick v219 (gv (isB v219 true) v211) (Go.Value.bool false)).bind fun v220 =>
    (Qpick v220 (gv (isB v220 true) v214) (Go.Value.bool false)).bind fun v221 =>
    (Qpick v221 (gv (isB v221 true) v217) (Go.Value.bool false)).bind fun v222 =>
    (guardQ v222 true (Qbin Try.prog Go.BinOp.eql 22 (gv (isB v222 true) v210) (Go.Value.int Go.IntKind.i64 4))).bind fun v223 =>
    (Qpick v222 v223 (Go.Value.bool false)).bind fun v224 =>
    (guardQ v224 true (Qbin Try.prog Go.BinOp.eql 22 (gv (isB v224 true) v213) (Go.Value.int Go.IntKind.i64 5))).bind fun v225 =>
    (Qpick v224 v225 (Go.Value.bool false)).bind fun v226 =>
    (guardQ v226 true (Qbin Try.prog Go.BinOp.eql 22 (gv (isB v226 true) v216) (Go.Value.int Go.IntKind.i64 6))).bind fun v227 =>
    (Qpick v226 v227 (Go.Value.bool false)).bind fun v228 =>
    (guardX v228 true r215.2 (Xcall Try.prog (Value.func (Fn.func 18) #[] #[]) #[(Go.Value.int Go.IntKind.u8 6), (gv (isB v228 true) v216)] r215.2)).bind fun r229 =>
    (guardX v228 true r229.2 (Xcall Try.prog (Value.func (Fn.func 18) #[] #[]) #[(Go.Value.int Go.IntKind.u8 6), (gv (isB v228 true) x3)] r229.2)).bind fun r230 =>
    (guardQ v228 true (Qbin Try.prog Go.BinOp.lss 3 r229.1 r230.1)).bind fun v231 =>
    (Qpick v228 v231 (Go.Value.bool false)).bind fun v232 =>
    some (v232, r230.2)
  | Exit.ret, [_, x2, _, _, _], w =>
    some (x2, w)
  | _, _, _ => none
noncomputable def s11raw (x0 : Value) (w : World) : Option (Value × World) :=
  (Xcall Try.prog (Value.func (Fn.func 12) #[] #[]) #[(Go.Value.int Go.IntKind.i64 0), (Go.Value.bool false), (Go.Value.int Go.IntKind.u8 2)] w).bind fun r180 =>
  (Qext r180.1 0).bind fun v181 =>
  (Qext r180.1 1).bind fun v182 =>
  (Xcall Try.prog (Value.func (Fn.func 12) #[] #[]) #[v181, (Go.Value.bool true), (Go.Value.int Go.IntKind.u8 18)] r180.2).bind fun r183 =>
  (Qext r183.1 0).bind fun v184 =>
  (Qext r183.1 1).bind fun v185 =>
  (Qun Go.UnOp.not v182).bind fun v186 =>
  (guardQ v186 false (Qun Go.UnOp.not (gv (isB v186 false) v185))).bind fun v187 =>
  (Qpick v186 (Go.Value.bool true) v187).bind fun v188 =>
  (guardQ v188 false (Qbin Try.prog Go.BinOp.neq 22 (gv (isB v188 false) v181) (Go.Value.int Go.IntKind.i64 1))).bind fun v189 =>
  (Qpick v188 (Go.Value.bool true) v189).bind fun v190 =>
  (guardQ v190 false (Qbin Try.prog Go.BinOp.neq 22 (gv (isB v190 false) v184) (Go.Value.int Go.IntKind.i64 2))).bind fun v191 =>
  (Qpick v190 (Go.Value.bool true) v191).bind fun v192 =>
  condK v192 (
    some ((Go.Value.bool false), r183.2)
  ) (
    (Xcall Try.prog (Value.func (Fn.func 12) #[] #[]) #[v184, (Go.Value.bool false), (Go.Value.int Go.IntKind.u8 16)] r183.2).bind fun r193 =>
    (Qext r193.1 0).bind fun v194 =>
    (Qext r193.1 1).bind fun v195 =>
    s11L0 [x0, undef, (Go.Value.bool false), v194, v195, v184, v185, (Go.Value.int Go.IntKind.i64 0), undef, undef, undef, undef, undef, undef, undef, undef, r180.1, r180.1, v181, v182, r183.1, v181, r183.1, v184, v185, v182, v186, v186, (gv (isB v186 false) v185), v187, v188, v188, (gv (isB v188 false) v181), v189, v190, v190, (gv (isB v190 false) v184), v191, v192, r193.1, v184, r193.1, v194, v195, undef, undef, undef, undef, undef, undef, undef, undef, undef, undef, undef, undef, undef, undef, undef, undef, undef, undef, undef, undef, undef, undef, undef, undef, undef, undef, undef, undef, undef, undef, undef, undef, undef, undef, undef, undef, undef, undef, undef, undef, undef, undef, undef, undef, undef, undef, undef, undef, undef, undef, undef, undef, undef, undef, undef, undef, undef, undef, undef, undef, undef, undef, undef, undef, undef, undef, undef, undef, undef, undef, undef, undef, undef, undef] [] r193.2
  )
noncomputable def s11 (x0 : Value) (w : World) : Option (Value × World) :=
  (Xcall Try.prog (Value.func (Fn.func 12) #[] #[]) #[(Go.Value.int Go.IntKind.i64 0), (Go.Value.bool false), (Go.Value.int Go.IntKind.u8 2)] w).bind fun r180 =>
  (Qext r180.1 0).bind fun v181 =>
  (Qext r180.1 1).bind fun v182 =>
  (Xcall Try.prog (Value.func (Fn.func 12) #[] #[]) #[v181, (Go.Value.bool true), (Go.Value.int Go.IntKind.u8 18)] r180.2).bind fun r183 =>
  (Qext r183.1 0).bind fun v184 =>
  (Qext r183.1 1).bind fun v185 =>
  (Qun Go.UnOp.not v182).bind fun v186 =>
  (guardQ v186 false (Qun Go.UnOp.not (gv (isB v186 false) v185))).bind fun v187 =>
  (Qpick v186 (Go.Value.bool true) v187).bind fun v188 =>
  (guardQ v188 false (Qbin Try.prog Go.BinOp.neq 22 (gv (isB v188 false) v181) (Go.Value.int Go.IntKind.i64 1))).bind fun v189 =>
  (Qpick v188 (Go.Value.bool true) v189).bind fun v190 =>
  (guardQ v190 false (Qbin Try.prog Go.BinOp.neq 22 (gv (isB v190 false) v184) (Go.Value.int Go.IntKind.i64 2))).bind fun v191 =>
  (Qpick v190 (Go.Value.bool true) v191).bind fun v192 =>
  condK v192 (
    some ((Go.Value.bool false), r183.2)
  ) (
    (Xcall Try.prog (Value.func (Fn.func 12) #[] #[]) #[v184, (Go.Value.bool false), (Go.Value.int Go.IntKind.u8 16)] r183.2).bind fun r193 =>
    (Qext r193.1 0).bind fun v194 =>
    (Qext r193.1 1).bind fun v195 =>
    loopR s11B0 s11R0 [x0, (Go.Value.bool false), v194, v195, (Go.Value.int Go.IntKind.i64 0)] r193.2
  )
theorem s11B0eq (x0 x2 x3 x4 x7 : Value) (w : World) (g : Nat → Value) (d : List Deferred) : evK Try.prog 11 none (nav [1, 1, 1, 1, 1, 0, 1, 0, 0] (bodyOf Try.f11)) none _ (frm 118 (setL [0, 2, 3, 4, 7] [x0, x2, x3, x4, x7] g) d) w (projK [0, 2, 3, 4, 7]) = s11B0 [x0, x2, x3, x4, x7] w := by kernel_rfl
theorem s11R0x0eq (x0 x2 x3 x4 x7 : Value) (g : Nat → Value) (w : World) : s11K1 (Exit.exit 0) (frm 118 (setL [0, 2, 3, 4, 7] [x0, x2, x3, x4, x7] g) []) w = s11R0 (Exit.exit 0) [x0, x2, x3, x4, x7] w := by kernel_rfl
theorem s11R0ret_eq (x0 x2 x3 x4 x7 : Value) (g : Nat → Value) (w : World) : s11K1 Exit.ret (frm 118 (setL [0, 2, 3, 4, 7] [x0, x2, x3, x4, x7] g) []) w = s11R0 Exit.ret [x0, x2, x3, x4, x7] w := by kernel_rfl
theorem s11R0of : ∀ (e : Exit) (xs : List Value) (w : World) (g : Nat → Value) (y : _), s11R0 e xs w = some y → s11K1 e (frm 118 (setL [0, 2, 3, 4, 7] xs g) []) w = some y := by
  intro e xs w g y h
  unfold s11R0 at h
  split at h
  · exact (s11R0x0eq _ _ _ _ _ g _).trans h
  · exact (s11R0ret_eq _ _ _ _ _ g _).trans h
  · cases h
theorem s11L0of {s0 s1 s2 s3 s4 s5 s6 s7 s8 s9 s10 s11 s12 s13 s14 s15 s16 s17 s18 s19 s20 s21 s22 s23 s24 s25 s26 s27 s28 s29 s30 s31 s32 s33 s34 s35 s36 s37 s38 s39 s40 s41 s42 s43 s44 s45 s46 s47 s48 s49 s50 s51 s52 s53 s54 s55 s56 s57 s58 s59 s60 s61 s62 s63 s64 s65 s66 s67 s68 s69 s70 s71 s72 s73 s74 s75 s76 s77 s78 s79 s80 s81 s82 s83 s84 s85 s86 s87 s88 s89 s90 s91 s92 s93 s94 s95 s96 s97 s98 s99 s100 s101 s102 s103 s104 s105 s106 s107 s108 s109 s110 s111 s112 s113 s114 s115 s116 s117 : Value} {w : World} {r : _} (h : loopR s11B0 s11R0 [s0, s2, s3, s4, s7] w = some r) : s11L0 [s0, s1, s2, s3, s4, s5, s6, s7, s8, s9, s10, s11, s12, s13, s14, s15, s16, s17, s18, s19, s20, s21, s22, s23, s24, s25, s26, s27, s28, s29, s30, s31, s32, s33, s34, s35, s36, s37, s38, s39, s40, s41, s42, s43, s44, s45, s46, s47, s48, s49, s50, s51, s52, s53, s54, s55, s56, s57, s58, s59, s60, s61, s62, s63, s64, s65, s66, s67, s68, s69, s70, s71, s72, s73, s74, s75, s76, s77, s78, s79, s80, s81, s82, s83, s84, s85, s86, s87, s88, s89, s90, s91, s92, s93, s94, s95, s96, s97, s98, s99, s100, s101, s102, s103, s104, s105, s106, s107, s108, s109, s110, s111, s112, s113, s114, s115, s116, s117] [] w = some r :=
  loopN_of (B := s11B0) (R := s11R0) (n := 118) (live := [0, 2, 3, 4, 7]) (fun xs w g y hl h => match xs, hl, h with | [x0, x2, x3, x4, x7], _, h => (s11B0eq x0 x2 x3 x4 x7 w g []).trans h) (by kernel_rfl) (s11R0of) (fun i => ([s0, s1, s2, s3, s4, s5, s6, s7, s8, s9, s10, s11, s12, s13, s14, s15, s16, s17, s18, s19, s20, s21, s22, s23, s24, s25, s26, s27, s28, s29, s30, s31, s32, s33, s34, s35, s36, s37, s38, s39, s40, s41, s42, s43, s44, s45, s46, s47, s48, s49, s50, s51, s52, s53, s54, s55, s56, s57, s58, s59, s60, s61, s62, s63, s64, s65, s66, s67, s68, s69, s70, s71, s72, s73, s74, s75, s76, s77, s78, s79, s80, s81, s82, s83, s84, s85, s86, s87, s88, s89, s90, s91, s92, s93, s94, s95, s96, s97, s98, s99, s100, s101, s102, s103, s104, s105, s106, s107, s108, s109, s110, s111, s112, s113, s114, s115, s116, s117] : List Value).getD i undef) (by kernel_rfl) rfl h
theorem s11eq (x0 : Value) (w : World) : evK Try.prog 11 none (bodyOf Try.f11) none _ { tmps := (([x0] : List Value) ++ List.replicate (118 - 1) undef).toArray, defers := [] } w (leaveK Try.prog Try.f11) = s11raw x0 w := by kernel_rfl
theorem c11 {x0 : Value} {w : World} {r : Value × World} (h : s11 x0 w = some r) : C Try.prog 11 #[x0] w = some r :=
  C_ev follows_all drawLaw (by kernel_rfl) Try.func11 (by rfl) ((s11eq x0 w).trans (show s11raw x0 w = some r from (Ev.bind_mono fun _ => (Ev.bind_mono fun _ => (Ev.bind_mono fun _ => (Ev.bind_mono fun _ => (Ev.bind_mono fun _ => (Ev.bind_mono fun _ => (Ev.bind_mono fun _ => (Ev.bind_mono fun _ => (Ev.bind_mono fun _ => (Ev.bind_mono fun _ => (Ev.bind_mono fun _ => (Ev.bind_mono fun _ => (Ev.bind_mono fun _ => (condK_mono id (Ev.bind_mono fun _ => (Ev.bind_mono fun _ => (Ev.bind_mono fun _ => (s11L0of)))))))))))))))))) h))
theorem e11 {x0 : Value} {w : World} {Q : Value × World → Prop} (h : Brings (s11 x0 w) Q) : Brings (Xcall Try.prog (Value.func (Fn.func 11) #[] #[]) #[x0] w) Q :=
  h.call (Xcall_fn Try.func11 (by decide +kernel) (by rfl) _ _ _ w) fun _ h => c11 h

/-! lychgate/track.Next -/
noncomputable def s12 (x0 x1 x2 : Value) (w : World) : Option (Value × World) :=
  (Xcall Try.prog (Value.func (Fn.func 23) #[] #[]) #[x1, x2] w).bind fun r233 =>
  (Qext r233.1 0).bind fun v234 =>
  (Qext r233.1 1).bind fun v235 =>
  (Qun Go.UnOp.not v235).bind fun v236 =>
  condK v236 (
    some ((Value.tuple #[(Go.Value.int Go.IntKind.i64 0), (Go.Value.bool false)]), r233.2)
  ) (
    (Qbin Try.prog Go.BinOp.eql 22 x0 (Go.Value.int Go.IntKind.i64 1)).bind fun v237 =>
    (guardQ v237 true (Qbin Try.prog Go.BinOp.eql 39 (gv (isB v237 true) v234) (Go.Value.int Go.IntKind.i64 3))).bind fun v238 =>
    (Qpick v237 v238 (Go.Value.bool false)).bind fun v239 =>
    (Qpick v239 (gv (isB v239 true) x1) (Go.Value.bool false)).bind fun v240 =>
    condK v240 (
      some ((Value.tuple #[(Go.Value.int Go.IntKind.i64 2), (Go.Value.bool true)]), r233.2)
    ) (
      (Xcall Try.prog (Value.func (Fn.func 24) #[] #[]) #[] r233.2).bind fun r241 =>
      (Qbuild Try.prog 45 #[(0, x0), (1, v234)] r241.2).bind fun v242 =>
      (Xlookup Try.prog 42 r241.1 v242 true r241.2).bind fun r243 =>
      (Qext r243.1 0).bind fun v244 =>
      (Qext r243.1 1).bind fun v245 =>
      some ((Value.tuple #[v244, v245]), r243.2)
    )
  )
theorem s12eq (x0 x1 x2 : Value) (w : World) : evK Try.prog 12 none (bodyOf Try.f12) none _ { tmps := (([x0, x1, x2] : List Value) ++ List.replicate (38 - 3) undef).toArray, defers := [] } w (leaveK Try.prog Try.f12) = s12 x0 x1 x2 w := by kernel_rfl
theorem c12 {x0 x1 x2 : Value} {w : World} {r : Value × World} (h : s12 x0 x1 x2 w = some r) : C Try.prog 12 #[x0, x1, x2] w = some r :=
  C_ev follows_all drawLaw (by kernel_rfl) Try.func12 (by rfl) ((s12eq x0 x1 x2 w).trans h)
theorem e12 {x0 x1 x2 : Value} {w : World} {Q : Value × World → Prop} (h : Brings (s12 x0 x1 x2 w) Q) : Brings (Xcall Try.prog (Value.func (Fn.func 12) #[] #[]) #[x0, x1, x2] w) Q :=
  h.call (Xcall_fn Try.func12 (by decide +kernel) (by rfl) _ _ _ w) fun _ h => c12 h

/-! lychgate/lychgateref07.Next -/
noncomputable def s13K0 : Exit → Act → World → Option (Value × World) := seqK (fun a w => evK Try.prog 13 none (nav [1, 1, 1, 1, 1, 1, 1, 1] (bodyOf Try.f13)) none _ a w (leaveK Try.prog Try.f13)) (leaveK Try.prog Try.f13)
noncomputable def s13K1 : Exit → Act → World → Option (Value × World) := seqK (fun a w => evK Try.prog 13 none (nav [1, 1, 1, 1, 1, 1, 1, 0, 1, 0, 1] (bodyOf Try.f13)) none _ a w s13K0) s13K0
noncomputable def s13K2 : Exit → Act → World → Option (Value × World) := blockK 1 s13K1
noncomputable def s13K3 : Exit → Act → World → Option (Value × World) := seqK (fun a w => evK Try.prog 13 none (nav [1, 1, 1, 1, 1, 1, 1, 0, 1, 0, 0, 1, 0, 1] (bodyOf Try.f13)) none _ a w s13K2) s13K2
noncomputable def s13J0 (s : List Value) (d : List Deferred) (w : World) : Option (Value × World) := s13K3 .normal ⟨s.toArray, d⟩ w
noncomputable def s13K4 : Exit → Act → World → Option (Value × World) := seqK (fun a w => evK Try.prog 13 none (nav [1, 1, 1, 1, 1, 1, 1, 1, 1] (bodyOf Try.f13)) none _ a w (leaveK Try.prog Try.f13)) (leaveK Try.prog Try.f13)
noncomputable def s13K5 : Exit → Act → World → Option (Value × World) := blockK 2 s13K4
noncomputable def s13K6 : Exit → Act → World → Option (Value × World) := seqK (fun a w => evK Try.prog 13 none (nav [1, 1, 1, 1, 1, 1, 1, 1, 0, 1, 0, 1, 0, 1] (bodyOf Try.f13)) none _ a w s13K5) s13K5
noncomputable def s13J1 (s : List Value) (d : List Deferred) (w : World) : Option (Value × World) := s13K6 .normal ⟨s.toArray, d⟩ w
noncomputable def s13M2 (s89 s93 : Value) (w : World) : Option (Value × World) :=
  condK s93 (
    some ((Value.tuple #[(Go.Value.int Go.IntKind.i64 5), (Go.Value.bool true)]), w)
  ) (
    (Qbin Try.prog Go.BinOp.eql 22 s89 (Go.Value.int Go.IntKind.i64 6)).bind fun v290 =>
    condK v290 (
      some ((Value.tuple #[(Go.Value.int Go.IntKind.i64 6), (Go.Value.bool true)]), w)
    ) (
      some ((Value.tuple #[(Go.Value.int Go.IntKind.i64 0), (Go.Value.bool false)]), w)
    )
  )
noncomputable def s13M1 (s99 s100 : Value) (w : World) : Option (Value × World) :=
  condK s100 (
    some ((Value.tuple #[(Go.Value.int Go.IntKind.i64 3), (Go.Value.bool true)]), w)
  ) (
    (Qbin Try.prog Go.BinOp.eql 22 s99 (Go.Value.int Go.IntKind.i64 4)).bind fun v287 =>
    condK v287 (
      some ((Value.tuple #[(Go.Value.int Go.IntKind.i64 4), (Go.Value.bool true)]), w)
    ) (
      (Qbin Try.prog Go.BinOp.eql 22 s99 (Go.Value.int Go.IntKind.i64 5)).bind fun v288 =>
      condK v288 (
        condK v288 (
          some ((Value.tuple #[(Go.Value.int Go.IntKind.i64 6), (Go.Value.bool true)]), w)
        ) (
          some ((Value.tuple #[(Go.Value.int Go.IntKind.i64 0), (Go.Value.bool false)]), w)
        )
      ) (
        (Qbin Try.prog Go.BinOp.eql 22 s99 (Go.Value.int Go.IntKind.i64 6)).bind fun v289 =>
        condK v289 (
          some ((Value.tuple #[(Go.Value.int Go.IntKind.i64 6), (Go.Value.bool true)]), w)
        ) (
          some ((Value.tuple #[(Go.Value.int Go.IntKind.i64 0), (Go.Value.bool false)]), w)
        )
      )
    )
  )
noncomputable def s13K7 : Exit → Act → World → Option (Value × World) := seqK (fun a w => evK Try.prog 13 none (nav [1, 1, 1, 1, 1, 1, 1, 0, 1, 0, 0, 1, 0, 1, 1, 1] (bodyOf Try.f13)) none _ a w s13K2) s13K2
noncomputable def s13J2 (s : List Value) (d : List Deferred) (w : World) : Option (Value × World) := s13K7 .normal ⟨s.toArray, d⟩ w
noncomputable def s13M0raw (s0 s1 s2 s3 s4 s5 s6 s7 s8 s9 s10 s11 s12 s13 s14 s15 s16 s17 s18 s19 s20 s21 s22 s23 s24 s25 s26 s27 s28 s29 s30 s31 s32 s33 s34 s35 s36 s37 s38 s39 s40 s41 s42 s43 s44 s45 s46 s47 s48 s49 s50 s51 s52 s53 s54 s55 s56 s57 s58 s59 s60 s61 s62 s63 s64 s65 s66 s67 s68 s69 s70 s71 s72 s73 s74 s75 s76 s77 s78 s79 s80 s81 s82 s83 s84 s85 s86 s87 s88 s89 s90 s91 s92 _s93 _s94 s95 s96 s97 s98 s99 s100 s101 s102 s103 s104 s105 s106 s107 : Value) (w : World) : Option (Value × World) :=
  condK s90 (
    some ((Value.tuple #[(Go.Value.int Go.IntKind.i64 4), (Go.Value.bool true)]), w)
  ) (
    (Qbin Try.prog Go.BinOp.eql 22 s89 (Go.Value.int Go.IntKind.i64 4)).bind fun v285 =>
    condK v285 (
      s13J2 [s0, s1, s2, s3, s4, s5, s6, s7, s8, s9, s10, s11, s12, s13, s14, s15, s16, s17, s18, s19, s20, s21, s22, s23, s24, s25, s26, s27, s28, s29, s30, s31, s32, s33, s34, s35, s36, s37, s38, s39, s40, s41, s42, s43, s44, s45, s46, s47, s48, s49, s50, s51, s52, s53, s54, s55, s56, s57, s58, s59, s60, s61, s62, s63, s64, s65, s66, s67, s68, s69, s70, s71, s72, s73, s74, s75, s76, s77, s78, s79, s80, s81, s82, s83, s84, s85, s86, s87, s88, s89, s90, s91, s92, v285, v285, s95, s96, s97, s98, s99, s100, s101, s102, s103, s104, s105, s106, s107] [] w
    ) (
      (Qbin Try.prog Go.BinOp.eql 22 s89 (Go.Value.int Go.IntKind.i64 5)).bind fun v286 =>
      s13J2 [s0, s1, s2, s3, s4, s5, s6, s7, s8, s9, s10, s11, s12, s13, s14, s15, s16, s17, s18, s19, s20, s21, s22, s23, s24, s25, s26, s27, s28, s29, s30, s31, s32, s33, s34, s35, s36, s37, s38, s39, s40, s41, s42, s43, s44, s45, s46, s47, s48, s49, s50, s51, s52, s53, s54, s55, s56, s57, s58, s59, s60, s61, s62, s63, s64, s65, s66, s67, s68, s69, s70, s71, s72, s73, s74, s75, s76, s77, s78, s79, s80, s81, s82, s83, s84, s85, s86, s87, s88, s89, s90, s91, s92, v286, v285, v286, s96, s97, s98, s99, s100, s101, s102, s103, s104, s105, s106, s107] [] w
    )
  )
noncomputable def s13M0 (s89 s90 : Value) (w : World) : Option (Value × World) :=
  condK s90 (
    some ((Value.tuple #[(Go.Value.int Go.IntKind.i64 4), (Go.Value.bool true)]), w)
  ) (
    (Qbin Try.prog Go.BinOp.eql 22 s89 (Go.Value.int Go.IntKind.i64 4)).bind fun v285 =>
    condK v285 (
      s13M2 s89 v285 w
    ) (
      (Qbin Try.prog Go.BinOp.eql 22 s89 (Go.Value.int Go.IntKind.i64 5)).bind fun v286 =>
      s13M2 s89 v286 w
    )
  )
noncomputable def s13raw (x0 x1 x2 : Value) (w : World) : Option (Value × World) :=
  (Qbin Try.prog Go.BinOp.and 5 x2 (Go.Value.int Go.IntKind.u8 4)).bind fun v246 =>
  (Qbin Try.prog Go.BinOp.neq 5 v246 (Go.Value.int Go.IntKind.u8 0)).bind fun v247 =>
  (Qbin Try.prog Go.BinOp.and 5 x2 (Go.Value.int Go.IntKind.u8 2)).bind fun v248 =>
  (Qbin Try.prog Go.BinOp.neq 5 v248 (Go.Value.int Go.IntKind.u8 0)).bind fun v249 =>
  (Qbin Try.prog Go.BinOp.and 5 x2 (Go.Value.int Go.IntKind.u8 1)).bind fun v250 =>
  (Qbin Try.prog Go.BinOp.neq 5 v250 (Go.Value.int Go.IntKind.u8 0)).bind fun v251 =>
  (Qbin Try.prog Go.BinOp.and 5 x2 (Go.Value.int Go.IntKind.u8 16)).bind fun v252 =>
  (Qbin Try.prog Go.BinOp.neq 5 v252 (Go.Value.int Go.IntKind.u8 0)).bind fun v253 =>
  (Qpick v249 (gv (isB v249 true) v251) (Go.Value.bool false)).bind fun v254 =>
  (guardQ v254 true (Qun Go.UnOp.not (gv (isB v254 true) v247))).bind fun v255 =>
  (Qpick v254 v255 (Go.Value.bool false)).bind fun v256 =>
  condK v256 (
    some ((Value.tuple #[(Go.Value.int Go.IntKind.i64 0), (Go.Value.bool false)]), w)
  ) (
    (Qbin Try.prog Go.BinOp.eql 22 x0 (Go.Value.int Go.IntKind.i64 0)).bind fun v257 =>
    (guardQ v257 false (Qbin Try.prog Go.BinOp.eql 22 (gv (isB v257 false) x0) (Go.Value.int Go.IntKind.i64 7))).bind fun v258 =>
    (Qpick v257 (Go.Value.bool true) v258).bind fun v259 =>
    condK v259 (
      (Qun Go.UnOp.not x1).bind fun v260 =>
      (guardX v260 true w (Xcall Try.prog (Value.func (Fn.func 16) #[] #[]) #[(gv (isB v260 true) x2)] w)).bind fun r261 =>
      (Qpick v260 r261.1 (Go.Value.bool false)).bind fun v262 =>
      condK v262 (
        some ((Value.tuple #[(Go.Value.int Go.IntKind.i64 1), (Go.Value.bool true)]), r261.2)
      ) (
        (Qbin Try.prog Go.BinOp.eql 22 x0 (Go.Value.int Go.IntKind.i64 7)).bind fun v263 =>
        (Qpick v263 (gv (isB v263 true) v247) (Go.Value.bool false)).bind fun v264 =>
        condK v264 (
          some ((Value.tuple #[(Go.Value.int Go.IntKind.i64 7), (Go.Value.bool true)]), r261.2)
        ) (
          some ((Value.tuple #[(Go.Value.int Go.IntKind.i64 0), (Go.Value.bool false)]), r261.2)
        )
      )
    ) (
      (Qbin Try.prog Go.BinOp.lss 22 x0 (Go.Value.int Go.IntKind.i64 1)).bind fun v265 =>
      (guardQ v265 false (Qbin Try.prog Go.BinOp.gtr 22 (gv (isB v265 false) x0) (Go.Value.int Go.IntKind.i64 6))).bind fun v266 =>
      (Qpick v265 (Go.Value.bool true) v266).bind fun v267 =>
      condK v267 (
        some ((Value.tuple #[(Go.Value.int Go.IntKind.i64 0), (Go.Value.bool false)]), w)
      ) (
        condK v247 (
          some ((Value.tuple #[(Go.Value.int Go.IntKind.i64 7), (Go.Value.bool true)]), w)
        ) (
          condK v249 (
            (Qbin Try.prog Go.BinOp.eql 22 x0 (Go.Value.int Go.IntKind.i64 1)).bind fun v268 =>
            (guardQ v268 true (Qun Go.UnOp.not (gv (isB v268 true) x1))).bind fun v269 =>
            (Qpick v268 v269 (Go.Value.bool false)).bind fun v270 =>
            (guardX v270 true w (Xcall Try.prog (Value.func (Fn.func 16) #[] #[]) #[(gv (isB v270 true) x2)] w)).bind fun r271 =>
            (Qpick v270 r271.1 (Go.Value.bool false)).bind fun v272 =>
            condK v272 (
              some ((Value.tuple #[(Go.Value.int Go.IntKind.i64 1), (Go.Value.bool true)]), r271.2)
            ) (
              (Qbin Try.prog Go.BinOp.eql 22 x0 (Go.Value.int Go.IntKind.i64 1)).bind fun v273 =>
              (Qpick v273 (gv (isB v273 true) x1) (Go.Value.bool false)).bind fun v274 =>
              condK v274 (
                some ((Value.tuple #[(Go.Value.int Go.IntKind.i64 2), (Go.Value.bool true)]), r271.2)
              ) (
                (Qbin Try.prog Go.BinOp.eql 22 x0 (Go.Value.int Go.IntKind.i64 2)).bind fun v275 =>
                condK v275 (
                  some ((Value.tuple #[(Go.Value.int Go.IntKind.i64 2), (Go.Value.bool true)]), r271.2)
                ) (
                  (Qbin Try.prog Go.BinOp.eql 22 x0 (Go.Value.int Go.IntKind.i64 6)).bind fun v276 =>
                  (guardQ v276 true (Qun Go.UnOp.not (gv (isB v276 true) x1))).bind fun v277 =>
                  (Qpick v276 v277 (Go.Value.bool false)).bind fun v278 =>
                  (guardX v278 true r271.2 (Xcall Try.prog (Value.func (Fn.func 16) #[] #[]) #[(gv (isB v278 true) x2)] r271.2)).bind fun r279 =>
                  (Qpick v278 r279.1 (Go.Value.bool false)).bind fun v280 =>
                  condK v280 (
                    some ((Value.tuple #[(Go.Value.int Go.IntKind.i64 1), (Go.Value.bool true)]), r279.2)
                  ) (
                    some ((Value.tuple #[(Go.Value.int Go.IntKind.i64 0), (Go.Value.bool false)]), r279.2)
                  )
                )
              )
            )
          ) (
            condK v251 (
              (Qbin Try.prog Go.BinOp.eql 22 x0 (Go.Value.int Go.IntKind.i64 2)).bind fun v281 =>
              condK v281 (
                s13J0 [x0, x1, x2, undef, undef, undef, (Go.Value.int Go.IntKind.i64 0), (Go.Value.bool false), v247, v249, v251, v253, x2, v246, v247, x2, v248, v249, x2, v250, v251, x2, v252, v253, v249, v249, (gv (isB v249 true) v251), v254, v254, (gv (isB v254 true) v247), v255, v256, x0, v257, v257, (gv (isB v257 false) x0), v258, v259, undef, undef, undef, undef, undef, undef, undef, undef, undef, undef, undef, x0, v265, v265, (gv (isB v265 false) x0), v266, v267, v247, v249, undef, undef, undef, undef, undef, undef, undef, undef, undef, undef, undef, undef, undef, undef, undef, undef, undef, undef, undef, undef, undef, undef, undef, undef, undef, undef, undef, undef, undef, undef, undef, v251, x0, v281, v281, undef, undef, undef, undef, undef, undef, undef, undef, undef, undef, undef, undef, undef, undef, undef, undef] [] w
              ) (
                (Qbin Try.prog Go.BinOp.eql 22 x0 (Go.Value.int Go.IntKind.i64 3)).bind fun v282 =>
                s13J0 [x0, x1, x2, undef, undef, undef, (Go.Value.int Go.IntKind.i64 0), (Go.Value.bool false), v247, v249, v251, v253, x2, v246, v247, x2, v248, v249, x2, v250, v251, x2, v252, v253, v249, v249, (gv (isB v249 true) v251), v254, v254, (gv (isB v254 true) v247), v255, v256, x0, v257, v257, (gv (isB v257 false) x0), v258, v259, undef, undef, undef, undef, undef, undef, undef, undef, undef, undef, undef, x0, v265, v265, (gv (isB v265 false) x0), v266, v267, v247, v249, undef, undef, undef, undef, undef, undef, undef, undef, undef, undef, undef, undef, undef, undef, undef, undef, undef, undef, undef, undef, undef, undef, undef, undef, undef, undef, undef, undef, undef, undef, undef, v251, x0, v282, v281, v282, undef, undef, undef, undef, undef, undef, undef, undef, undef, undef, undef, undef, undef, undef, undef] [] w
              )
            ) (
              condK v253 (
                (Qbin Try.prog Go.BinOp.eql 22 x0 (Go.Value.int Go.IntKind.i64 2)).bind fun v283 =>
                condK v283 (
                  s13J1 [x0, x1, x2, undef, undef, undef, (Go.Value.int Go.IntKind.i64 0), (Go.Value.bool false), v247, v249, v251, v253, x2, v246, v247, x2, v248, v249, x2, v250, v251, x2, v252, v253, v249, v249, (gv (isB v249 true) v251), v254, v254, (gv (isB v254 true) v247), v255, v256, x0, v257, v257, (gv (isB v257 false) x0), v258, v259, undef, undef, undef, undef, undef, undef, undef, undef, undef, undef, undef, x0, v265, v265, (gv (isB v265 false) x0), v266, v267, v247, v249, undef, undef, undef, undef, undef, undef, undef, undef, undef, undef, undef, undef, undef, undef, undef, undef, undef, undef, undef, undef, undef, undef, undef, undef, undef, undef, undef, undef, undef, undef, undef, v251, undef, undef, undef, undef, undef, undef, undef, undef, undef, v253, x0, v283, v283, undef, undef, undef, undef, undef, undef] [] w
                ) (
                  (Qbin Try.prog Go.BinOp.eql 22 x0 (Go.Value.int Go.IntKind.i64 3)).bind fun v284 =>
                  s13J1 [x0, x1, x2, undef, undef, undef, (Go.Value.int Go.IntKind.i64 0), (Go.Value.bool false), v247, v249, v251, v253, x2, v246, v247, x2, v248, v249, x2, v250, v251, x2, v252, v253, v249, v249, (gv (isB v249 true) v251), v254, v254, (gv (isB v254 true) v247), v255, v256, x0, v257, v257, (gv (isB v257 false) x0), v258, v259, undef, undef, undef, undef, undef, undef, undef, undef, undef, undef, undef, x0, v265, v265, (gv (isB v265 false) x0), v266, v267, v247, v249, undef, undef, undef, undef, undef, undef, undef, undef, undef, undef, undef, undef, undef, undef, undef, undef, undef, undef, undef, undef, undef, undef, undef, undef, undef, undef, undef, undef, undef, undef, undef, v251, undef, undef, undef, undef, undef, undef, undef, undef, undef, v253, x0, v284, v283, v284, undef, undef, undef, undef, undef] [] w
                )
              ) (
                some ((Value.tuple #[(Go.Value.int Go.IntKind.i64 0), (Go.Value.bool false)]), w)
              )
            )
          )
        )
      )
    )
  )
noncomputable def s13 (x0 x1 x2 : Value) (w : World) : Option (Value × World) :=
  (Qbin Try.prog Go.BinOp.and 5 x2 (Go.Value.int Go.IntKind.u8 4)).bind fun v246 =>
  (Qbin Try.prog Go.BinOp.neq 5 v246 (Go.Value.int Go.IntKind.u8 0)).bind fun v247 =>
  (Qbin Try.prog Go.BinOp.and 5 x2 (Go.Value.int Go.IntKind.u8 2)).bind fun v248 =>
  (Qbin Try.prog Go.BinOp.neq 5 v248 (Go.Value.int Go.IntKind.u8 0)).bind fun v249 =>
  (Qbin Try.prog Go.BinOp.and 5 x2 (Go.Value.int Go.IntKind.u8 1)).bind fun v250 =>
  (Qbin Try.prog Go.BinOp.neq 5 v250 (Go.Value.int Go.IntKind.u8 0)).bind fun v251 =>
  (Qbin Try.prog Go.BinOp.and 5 x2 (Go.Value.int Go.IntKind.u8 16)).bind fun v252 =>
  (Qbin Try.prog Go.BinOp.neq 5 v252 (Go.Value.int Go.IntKind.u8 0)).bind fun v253 =>
  (Qpick v249 (gv (isB v249 true) v251) (Go.Value.bool false)).bind fun v254 =>
  (guardQ v254 true (Qun Go.UnOp.not (gv (isB v254 true) v247))).bind fun v255 =>
  (Qpick v254 v255 (Go.Value.bool false)).bind fun v256 =>
  condK v256 (
    some ((Value.tuple #[(Go.Value.int Go.IntKind.i64 0), (Go.Value.bool false)]), w)
  ) (
    (Qbin Try.prog Go.BinOp.eql 22 x0 (Go.Value.int Go.IntKind.i64 0)).bind fun v257 =>
    (guardQ v257 false (Qbin Try.prog Go.BinOp.eql 22 (gv (isB v257 false) x0) (Go.Value.int Go.IntKind.i64 7))).bind fun v258 =>
    (Qpick v257 (Go.Value.bool true) v258).bind fun v259 =>
    condK v259 (
      (Qun Go.UnOp.not x1).bind fun v260 =>
      (guardX v260 true w (Xcall Try.prog (Value.func (Fn.func 16) #[] #[]) #[(gv (isB v260 true) x2)] w)).bind fun r261 =>
      (Qpick v260 r261.1 (Go.Value.bool false)).bind fun v262 =>
      condK v262 (
        some ((Value.tuple #[(Go.Value.int Go.IntKind.i64 1), (Go.Value.bool true)]), r261.2)
      ) (
        (Qbin Try.prog Go.BinOp.eql 22 x0 (Go.Value.int Go.IntKind.i64 7)).bind fun v263 =>
        (Qpick v263 (gv (isB v263 true) v247) (Go.Value.bool false)).bind fun v264 =>
        condK v264 (
          some ((Value.tuple #[(Go.Value.int Go.IntKind.i64 7), (Go.Value.bool true)]), r261.2)
        ) (
          some ((Value.tuple #[(Go.Value.int Go.IntKind.i64 0), (Go.Value.bool false)]), r261.2)
        )
      )
    ) (
      (Qbin Try.prog Go.BinOp.lss 22 x0 (Go.Value.int Go.IntKind.i64 1)).bind fun v265 =>
      (guardQ v265 false (Qbin Try.prog Go.BinOp.gtr 22 (gv (isB v265 false) x0) (Go.Value.int Go.IntKind.i64 6))).bind fun v266 =>
      (Qpick v265 (Go.Value.bool true) v266).bind fun v267 =>
      condK v267 (
        some ((Value.tuple #[(Go.Value.int Go.IntKind.i64 0), (Go.Value.bool false)]), w)
      ) (
        condK v247 (
          some ((Value.tuple #[(Go.Value.int Go.IntKind.i64 7), (Go.Value.bool true)]), w)
        ) (
          condK v249 (
            (Qbin Try.prog Go.BinOp.eql 22 x0 (Go.Value.int Go.IntKind.i64 1)).bind fun v268 =>
            (guardQ v268 true (Qun Go.UnOp.not (gv (isB v268 true) x1))).bind fun v269 =>
            (Qpick v268 v269 (Go.Value.bool false)).bind fun v270 =>
            (guardX v270 true w (Xcall Try.prog (Value.func (Fn.func 16) #[] #[]) #[(gv (isB v270 true) x2)] w)).bind fun r271 =>
            (Qpick v270 r271.1 (Go.Value.bool false)).bind fun v272 =>
            condK v272 (
              some ((Value.tuple #[(Go.Value.int Go.IntKind.i64 1), (Go.Value.bool true)]), r271.2)
            ) (
              (Qbin Try.prog Go.BinOp.eql 22 x0 (Go.Value.int Go.IntKind.i64 1)).bind fun v273 =>
              (Qpick v273 (gv (isB v273 true) x1) (Go.Value.bool false)).bind fun v274 =>
              condK v274 (
                some ((Value.tuple #[(Go.Value.int Go.IntKind.i64 2), (Go.Value.bool true)]), r271.2)
              ) (
                (Qbin Try.prog Go.BinOp.eql 22 x0 (Go.Value.int Go.IntKind.i64 2)).bind fun v275 =>
                condK v275 (
                  some ((Value.tuple #[(Go.Value.int Go.IntKind.i64 2), (Go.Value.bool true)]), r271.2)
                ) (
                  (Qbin Try.prog Go.BinOp.eql 22 x0 (Go.Value.int Go.IntKind.i64 6)).bind fun v276 =>
                  (guardQ v276 true (Qun Go.UnOp.not (gv (isB v276 true) x1))).bind fun v277 =>
                  (Qpick v276 v277 (Go.Value.bool false)).bind fun v278 =>
                  (guardX v278 true r271.2 (Xcall Try.prog (Value.func (Fn.func 16) #[] #[]) #[(gv (isB v278 true) x2)] r271.2)).bind fun r279 =>
                  (Qpick v278 r279.1 (Go.Value.bool false)).bind fun v280 =>
                  condK v280 (
                    some ((Value.tuple #[(Go.Value.int Go.IntKind.i64 1), (Go.Value.bool true)]), r279.2)
                  ) (
                    some ((Value.tuple #[(Go.Value.int Go.IntKind.i64 0), (Go.Value.bool false)]), r279.2)
                  )
                )
              )
            )
          ) (
            condK v251 (
              (Qbin Try.prog Go.BinOp.eql 22 x0 (Go.Value.int Go.IntKind.i64 2)).bind fun v281 =>
              condK v281 (
                s13M0 x0 v281 w
              ) (
                (Qbin Try.prog Go.BinOp.eql 22 x0 (Go.Value.int Go.IntKind.i64 3)).bind fun v282 =>
                s13M0 x0 v282 w
              )
            ) (
              condK v253 (
                (Qbin Try.prog Go.BinOp.eql 22 x0 (Go.Value.int Go.IntKind.i64 2)).bind fun v283 =>
                condK v283 (
                  s13M1 x0 v283 w
                ) (
                  (Qbin Try.prog Go.BinOp.eql 22 x0 (Go.Value.int Go.IntKind.i64 3)).bind fun v284 =>
                  s13M1 x0 v284 w
                )
              ) (
                some ((Value.tuple #[(Go.Value.int Go.IntKind.i64 0), (Go.Value.bool false)]), w)
              )
            )
          )
        )
      )
    )
  )
theorem s13J2eq (s0 s1 s2 s3 s4 s5 s6 s7 s8 s9 s10 s11 s12 s13 s14 s15 s16 s17 s18 s19 s20 s21 s22 s23 s24 s25 s26 s27 s28 s29 s30 s31 s32 s33 s34 s35 s36 s37 s38 s39 s40 s41 s42 s43 s44 s45 s46 s47 s48 s49 s50 s51 s52 s53 s54 s55 s56 s57 s58 s59 s60 s61 s62 s63 s64 s65 s66 s67 s68 s69 s70 s71 s72 s73 s74 s75 s76 s77 s78 s79 s80 s81 s82 s83 s84 s85 s86 s87 s88 s89 s90 s91 s92 s93 s94 s95 s96 s97 s98 s99 s100 s101 s102 s103 s104 s105 s106 s107 : Value) (w : World) : s13J2 [s0, s1, s2, s3, s4, s5, s6, s7, s8, s9, s10, s11, s12, s13, s14, s15, s16, s17, s18, s19, s20, s21, s22, s23, s24, s25, s26, s27, s28, s29, s30, s31, s32, s33, s34, s35, s36, s37, s38, s39, s40, s41, s42, s43, s44, s45, s46, s47, s48, s49, s50, s51, s52, s53, s54, s55, s56, s57, s58, s59, s60, s61, s62, s63, s64, s65, s66, s67, s68, s69, s70, s71, s72, s73, s74, s75, s76, s77, s78, s79, s80, s81, s82, s83, s84, s85, s86, s87, s88, s89, s90, s91, s92, s93, s94, s95, s96, s97, s98, s99, s100, s101, s102, s103, s104, s105, s106, s107] [] w = s13M2 s89 s93 w := by kernel_rfl
theorem s13J2of {s0 s1 s2 s3 s4 s5 s6 s7 s8 s9 s10 s11 s12 s13 s14 s15 s16 s17 s18 s19 s20 s21 s22 s23 s24 s25 s26 s27 s28 s29 s30 s31 s32 s33 s34 s35 s36 s37 s38 s39 s40 s41 s42 s43 s44 s45 s46 s47 s48 s49 s50 s51 s52 s53 s54 s55 s56 s57 s58 s59 s60 s61 s62 s63 s64 s65 s66 s67 s68 s69 s70 s71 s72 s73 s74 s75 s76 s77 s78 s79 s80 s81 s82 s83 s84 s85 s86 s87 s88 s89 s90 s91 s92 s93 s94 s95 s96 s97 s98 s99 s100 s101 s102 s103 s104 s105 s106 s107 : Value} {w : World} {r : _} (h : s13M2 s89 s93 w = some r) : s13J2 [s0, s1, s2, s3, s4, s5, s6, s7, s8, s9, s10, s11, s12, s13, s14, s15, s16, s17, s18, s19, s20, s21, s22, s23, s24, s25, s26, s27, s28, s29, s30, s31, s32, s33, s34, s35, s36, s37, s38, s39, s40, s41, s42, s43, s44, s45, s46, s47, s48, s49, s50, s51, s52, s53, s54, s55, s56, s57, s58, s59, s60, s61, s62, s63, s64, s65, s66, s67, s68, s69, s70, s71, s72, s73, s74, s75, s76, s77, s78, s79, s80, s81, s82, s83, s84, s85, s86, s87, s88, s89, s90, s91, s92, s93, s94, s95, s96, s97, s98, s99, s100, s101, s102, s103, s104, s105, s106, s107] [] w = some r :=
  ((s13J2eq s0 s1 s2 s3 s4 s5 s6 s7 s8 s9 s10 s11 s12 s13 s14 s15 s16 s17 s18 s19 s20 s21 s22 s23 s24 s25 s26 s27 s28 s29 s30 s31 s32 s33 s34 s35 s36 s37 s38 s39 s40 s41 s42 s43 s44 s45 s46 s47 s48 s49 s50 s51 s52 s53 s54 s55 s56 s57 s58 s59 s60 s61 s62 s63 s64 s65 s66 s67 s68 s69 s70 s71 s72 s73 s74 s75 s76 s77 s78 s79 s80 s81 s82 s83 s84 s85 s86 s87 s88 s89 s90 s91 s92 s93 s94 s95 s96 s97 s98 s99 s100 s101 s102 s103 s104 s105 s106 s107 w).trans h)
theorem s13J1eq (s0 s1 s2 s3 s4 s5 s6 s7 s8 s9 s10 s11 s12 s13 s14 s15 s16 s17 s18 s19 s20 s21 s22 s23 s24 s25 s26 s27 s28 s29 s30 s31 s32 s33 s34 s35 s36 s37 s38 s39 s40 s41 s42 s43 s44 s45 s46 s47 s48 s49 s50 s51 s52 s53 s54 s55 s56 s57 s58 s59 s60 s61 s62 s63 s64 s65 s66 s67 s68 s69 s70 s71 s72 s73 s74 s75 s76 s77 s78 s79 s80 s81 s82 s83 s84 s85 s86 s87 s88 s89 s90 s91 s92 s93 s94 s95 s96 s97 s98 s99 s100 s101 s102 s103 s104 s105 s106 s107 : Value) (w : World) : s13J1 [s0, s1, s2, s3, s4, s5, s6, s7, s8, s9, s10, s11, s12, s13, s14, s15, s16, s17, s18, s19, s20, s21, s22, s23, s24, s25, s26, s27, s28, s29, s30, s31, s32, s33, s34, s35, s36, s37, s38, s39, s40, s41, s42, s43, s44, s45, s46, s47, s48, s49, s50, s51, s52, s53, s54, s55, s56, s57, s58, s59, s60, s61, s62, s63, s64, s65, s66, s67, s68, s69, s70, s71, s72, s73, s74, s75, s76, s77, s78, s79, s80, s81, s82, s83, s84, s85, s86, s87, s88, s89, s90, s91, s92, s93, s94, s95, s96, s97, s98, s99, s100, s101, s102, s103, s104, s105, s106, s107] [] w = s13M1 s99 s100 w := by kernel_rfl
theorem s13J1of {s0 s1 s2 s3 s4 s5 s6 s7 s8 s9 s10 s11 s12 s13 s14 s15 s16 s17 s18 s19 s20 s21 s22 s23 s24 s25 s26 s27 s28 s29 s30 s31 s32 s33 s34 s35 s36 s37 s38 s39 s40 s41 s42 s43 s44 s45 s46 s47 s48 s49 s50 s51 s52 s53 s54 s55 s56 s57 s58 s59 s60 s61 s62 s63 s64 s65 s66 s67 s68 s69 s70 s71 s72 s73 s74 s75 s76 s77 s78 s79 s80 s81 s82 s83 s84 s85 s86 s87 s88 s89 s90 s91 s92 s93 s94 s95 s96 s97 s98 s99 s100 s101 s102 s103 s104 s105 s106 s107 : Value} {w : World} {r : _} (h : s13M1 s99 s100 w = some r) : s13J1 [s0, s1, s2, s3, s4, s5, s6, s7, s8, s9, s10, s11, s12, s13, s14, s15, s16, s17, s18, s19, s20, s21, s22, s23, s24, s25, s26, s27, s28, s29, s30, s31, s32, s33, s34, s35, s36, s37, s38, s39, s40, s41, s42, s43, s44, s45, s46, s47, s48, s49, s50, s51, s52, s53, s54, s55, s56, s57, s58, s59, s60, s61, s62, s63, s64, s65, s66, s67, s68, s69, s70, s71, s72, s73, s74, s75, s76, s77, s78, s79, s80, s81, s82, s83, s84, s85, s86, s87, s88, s89, s90, s91, s92, s93, s94, s95, s96, s97, s98, s99, s100, s101, s102, s103, s104, s105, s106, s107] [] w = some r :=
  ((s13J1eq s0 s1 s2 s3 s4 s5 s6 s7 s8 s9 s10 s11 s12 s13 s14 s15 s16 s17 s18 s19 s20 s21 s22 s23 s24 s25 s26 s27 s28 s29 s30 s31 s32 s33 s34 s35 s36 s37 s38 s39 s40 s41 s42 s43 s44 s45 s46 s47 s48 s49 s50 s51 s52 s53 s54 s55 s56 s57 s58 s59 s60 s61 s62 s63 s64 s65 s66 s67 s68 s69 s70 s71 s72 s73 s74 s75 s76 s77 s78 s79 s80 s81 s82 s83 s84 s85 s86 s87 s88 s89 s90 s91 s92 s93 s94 s95 s96 s97 s98 s99 s100 s101 s102 s103 s104 s105 s106 s107 w).trans h)
theorem s13J0eq (s0 s1 s2 s3 s4 s5 s6 s7 s8 s9 s10 s11 s12 s13 s14 s15 s16 s17 s18 s19 s20 s21 s22 s23 s24 s25 s26 s27 s28 s29 s30 s31 s32 s33 s34 s35 s36 s37 s38 s39 s40 s41 s42 s43 s44 s45 s46 s47 s48 s49 s50 s51 s52 s53 s54 s55 s56 s57 s58 s59 s60 s61 s62 s63 s64 s65 s66 s67 s68 s69 s70 s71 s72 s73 s74 s75 s76 s77 s78 s79 s80 s81 s82 s83 s84 s85 s86 s87 s88 s89 s90 s91 s92 s93 s94 s95 s96 s97 s98 s99 s100 s101 s102 s103 s104 s105 s106 s107 : Value) (w : World) : s13J0 [s0, s1, s2, s3, s4, s5, s6, s7, s8, s9, s10, s11, s12, s13, s14, s15, s16, s17, s18, s19, s20, s21, s22, s23, s24, s25, s26, s27, s28, s29, s30, s31, s32, s33, s34, s35, s36, s37, s38, s39, s40, s41, s42, s43, s44, s45, s46, s47, s48, s49, s50, s51, s52, s53, s54, s55, s56, s57, s58, s59, s60, s61, s62, s63, s64, s65, s66, s67, s68, s69, s70, s71, s72, s73, s74, s75, s76, s77, s78, s79, s80, s81, s82, s83, s84, s85, s86, s87, s88, s89, s90, s91, s92, s93, s94, s95, s96, s97, s98, s99, s100, s101, s102, s103, s104, s105, s106, s107] [] w = s13M0raw s0 s1 s2 s3 s4 s5 s6 s7 s8 s9 s10 s11 s12 s13 s14 s15 s16 s17 s18 s19 s20 s21 s22 s23 s24 s25 s26 s27 s28 s29 s30 s31 s32 s33 s34 s35 s36 s37 s38 s39 s40 s41 s42 s43 s44 s45 s46 s47 s48 s49 s50 s51 s52 s53 s54 s55 s56 s57 s58 s59 s60 s61 s62 s63 s64 s65 s66 s67 s68 s69 s70 s71 s72 s73 s74 s75 s76 s77 s78 s79 s80 s81 s82 s83 s84 s85 s86 s87 s88 s89 s90 s91 s92 s93 s94 s95 s96 s97 s98 s99 s100 s101 s102 s103 s104 s105 s106 s107 w := by kernel_rfl
theorem s13J0of {s0 s1 s2 s3 s4 s5 s6 s7 s8 s9 s10 s11 s12 s13 s14 s15 s16 s17 s18 s19 s20 s21 s22 s23 s24 s25 s26 s27 s28 s29 s30 s31 s32 s33 s34 s35 s36 s37 s38 s39 s40 s41 s42 s43 s44 s45 s46 s47 s48 s49 s50 s51 s52 s53 s54 s55 s56 s57 s58 s59 s60 s61 s62 s63 s64 s65 s66 s67 s68 s69 s70 s71 s72 s73 s74 s75 s76 s77 s78 s79 s80 s81 s82 s83 s84 s85 s86 s87 s88 s89 s90 s91 s92 s93 s94 s95 s96 s97 s98 s99 s100 s101 s102 s103 s104 s105 s106 s107 : Value} {w : World} {r : _} (h : s13M0 s89 s90 w = some r) : s13J0 [s0, s1, s2, s3, s4, s5, s6, s7, s8, s9, s10, s11, s12, s13, s14, s15, s16, s17, s18, s19, s20, s21, s22, s23, s24, s25, s26, s27, s28, s29, s30, s31, s32, s33, s34, s35, s36, s37, s38, s39, s40, s41, s42, s43, s44, s45, s46, s47, s48, s49, s50, s51, s52, s53, s54, s55, s56, s57, s58, s59, s60, s61, s62, s63, s64, s65, s66, s67, s68, s69, s70, s71, s72, s73, s74, s75, s76, s77, s78, s79, s80, s81, s82, s83, s84, s85, s86, s87, s88, s89, s90, s91, s92, s93, s94, s95, s96, s97, s98, s99, s100, s101, s102, s103, s104, s105, s106, s107] [] w = some r :=
  ((s13J0eq s0 s1 s2 s3 s4 s5 s6 s7 s8 s9 s10 s11 s12 s13 s14 s15 s16 s17 s18 s19 s20 s21 s22 s23 s24 s25 s26 s27 s28 s29 s30 s31 s32 s33 s34 s35 s36 s37 s38 s39 s40 s41 s42 s43 s44 s45 s46 s47 s48 s49 s50 s51 s52 s53 s54 s55 s56 s57 s58 s59 s60 s61 s62 s63 s64 s65 s66 s67 s68 s69 s70 s71 s72 s73 s74 s75 s76 s77 s78 s79 s80 s81 s82 s83 s84 s85 s86 s87 s88 s89 s90 s91 s92 s93 s94 s95 s96 s97 s98 s99 s100 s101 s102 s103 s104 s105 s106 s107 w).trans ((condK_mono id (Ev.bind_mono fun _ => (condK_mono (s13J2of) (Ev.bind_mono fun _ => (s13J2of))))) h))
theorem s13eq (x0 x1 x2 : Value) (w : World) : evK Try.prog 13 none (bodyOf Try.f13) none _ { tmps := (([x0, x1, x2] : List Value) ++ List.replicate (108 - 3) undef).toArray, defers := [] } w (leaveK Try.prog Try.f13) = s13raw x0 x1 x2 w := by kernel_rfl
theorem c13 {x0 x1 x2 : Value} {w : World} {r : Value × World} (h : s13 x0 x1 x2 w = some r) : C Try.prog 13 #[x0, x1, x2] w = some r :=
  C_ev follows_all drawLaw (by kernel_rfl) Try.func13 (by rfl) ((s13eq x0 x1 x2 w).trans (show s13raw x0 x1 x2 w = some r from (Ev.bind_mono fun _ => (Ev.bind_mono fun _ => (Ev.bind_mono fun _ => (Ev.bind_mono fun _ => (Ev.bind_mono fun _ => (Ev.bind_mono fun _ => (Ev.bind_mono fun _ => (Ev.bind_mono fun _ => (Ev.bind_mono fun _ => (Ev.bind_mono fun _ => (Ev.bind_mono fun _ => (condK_mono id (Ev.bind_mono fun _ => (Ev.bind_mono fun _ => (Ev.bind_mono fun _ => (condK_mono id (Ev.bind_mono fun _ => (Ev.bind_mono fun _ => (Ev.bind_mono fun _ => (condK_mono id (condK_mono id (condK_mono id (condK_mono (Ev.bind_mono fun _ => (condK_mono (s13J0of) (Ev.bind_mono fun _ => (s13J0of)))) (condK_mono (Ev.bind_mono fun _ => (condK_mono (s13J1of) (Ev.bind_mono fun _ => (s13J1of)))) id)))))))))))))))))))))))) h))
theorem e13 {x0 x1 x2 : Value} {w : World} {Q : Value × World → Prop} (h : Brings (s13 x0 x1 x2 w) Q) : Brings (Xcall Try.prog (Value.func (Fn.func 13) #[] #[]) #[x0, x1, x2] w) Q :=
  h.call (Xcall_fn Try.func13 (by decide +kernel) (by rfl) _ _ _ w) fun _ h => c13 h

/-! lychgate/lychgatelaw07.live -/
noncomputable def s14 (w : World) : Option (Value × World) :=
  (Xcall Try.prog (Value.func (Fn.func 12) #[] #[]) #[(Go.Value.int Go.IntKind.i64 0), (Go.Value.bool false), (Go.Value.int Go.IntKind.u8 2)] w).bind fun r291 =>
  (Qext r291.1 0).bind fun v292 =>
  (Qext r291.1 1).bind fun v293 =>
  (Xcall Try.prog (Value.func (Fn.func 12) #[] #[]) #[v292, (Go.Value.bool true), (Go.Value.int Go.IntKind.u8 18)] r291.2).bind fun r294 =>
  (Qext r294.1 0).bind fun v295 =>
  (Qext r294.1 1).bind fun v296 =>
  (Xcall Try.prog (Value.func (Fn.func 12) #[] #[]) #[v295, (Go.Value.bool false), (Go.Value.int Go.IntKind.u8 16)] r294.2).bind fun r297 =>
  (Qext r297.1 0).bind fun v298 =>
  (Qext r297.1 1).bind fun v299 =>
  (Qpick v293 (gv (isB v293 true) v296) (Go.Value.bool false)).bind fun v300 =>
  (Qpick v300 (gv (isB v300 true) v299) (Go.Value.bool false)).bind fun v301 =>
  (guardQ v301 true (Qbin Try.prog Go.BinOp.eql 22 (gv (isB v301 true) v292) (Go.Value.int Go.IntKind.i64 1))).bind fun v302 =>
  (Qpick v301 v302 (Go.Value.bool false)).bind fun v303 =>
  (guardQ v303 true (Qbin Try.prog Go.BinOp.eql 22 (gv (isB v303 true) v295) (Go.Value.int Go.IntKind.i64 2))).bind fun v304 =>
  (Qpick v303 v304 (Go.Value.bool false)).bind fun v305 =>
  (guardQ v305 true (Qbin Try.prog Go.BinOp.eql 22 (gv (isB v305 true) v298) (Go.Value.int Go.IntKind.i64 3))).bind fun v306 =>
  (Qpick v305 v306 (Go.Value.bool false)).bind fun v307 =>
  (guardX v307 true r297.2 (Xcall Try.prog (Value.func (Fn.func 18) #[] #[]) #[(Go.Value.int Go.IntKind.u8 6), (gv (isB v307 true) v298)] r297.2)).bind fun r308 =>
  (guardQ v307 true (Qbin Try.prog Go.BinOp.eql 3 r308.1 (Go.Value.int Go.IntKind.i64 432000))).bind fun v309 =>
  (Qpick v307 v309 (Go.Value.bool false)).bind fun v310 =>
  some (v310, r308.2)
theorem s14eq (w : World) : evK Try.prog 14 none (bodyOf Try.f14) none _ { tmps := (([] : List Value) ++ List.replicate (45 - 0) undef).toArray, defers := [] } w (leaveK Try.prog Try.f14) = s14  w := by kernel_rfl
theorem c14 {w : World} {r : Value × World} (h : s14  w = some r) : C Try.prog 14 #[] w = some r :=
  C_ev follows_all drawLaw (by kernel_rfl) Try.func14 (by rfl) ((s14eq  w).trans h)
theorem e14 {w : World} {Q : Value × World → Prop} (h : Brings (s14  w) Q) : Brings (Xcall Try.prog (Value.func (Fn.func 14) #[] #[]) #[] w) Q :=
  h.call (Xcall_fn Try.func14 (by decide +kernel) (by rfl) _ _ _ w) fun _ h => c14 h

/-! lychgate/track.Begins -/
noncomputable def s15 (x0 : Value) (w : World) : Option (Value × World) :=
  (Qbin Try.prog Go.BinOp.and 5 x0 (Go.Value.int Go.IntKind.u8 23)).bind fun v311 =>
  (Qbin Try.prog Go.BinOp.eql 5 v311 (Go.Value.int Go.IntKind.u8 2)).bind fun v312 =>
  some (v312, w)
theorem s15eq (x0 : Value) (w : World) : evK Try.prog 15 none (bodyOf Try.f15) none _ { tmps := (([x0] : List Value) ++ List.replicate (6 - 1) undef).toArray, defers := [] } w (leaveK Try.prog Try.f15) = s15 x0 w := by kernel_rfl
theorem c15 {x0 : Value} {w : World} {r : Value × World} (h : s15 x0 w = some r) : C Try.prog 15 #[x0] w = some r :=
  C_ev follows_all drawLaw (by kernel_rfl) Try.func15 (by rfl) ((s15eq x0 w).trans h)
theorem e15 {x0 : Value} {w : World} {Q : Value × World → Prop} (h : Brings (s15 x0 w) Q) : Brings (Xcall Try.prog (Value.func (Fn.func 15) #[] #[]) #[x0] w) Q :=
  h.call (Xcall_fn Try.func15 (by decide +kernel) (by rfl) _ _ _ w) fun _ h => c15 h

/-! lychgate/lychgateref07.Begins -/
noncomputable def s16 (x0 : Value) (w : World) : Option (Value × World) :=
  (Qbin Try.prog Go.BinOp.and 5 x0 (Go.Value.int Go.IntKind.u8 2)).bind fun v313 =>
  (Qbin Try.prog Go.BinOp.neq 5 v313 (Go.Value.int Go.IntKind.u8 0)).bind fun v314 =>
  (guardQ v314 true (Qbin Try.prog Go.BinOp.and 5 (gv (isB v314 true) x0) (Go.Value.int Go.IntKind.u8 21))).bind fun v315 =>
  (guardQ v314 true (Qbin Try.prog Go.BinOp.eql 5 v315 (Go.Value.int Go.IntKind.u8 0))).bind fun v316 =>
  (Qpick v314 v316 (Go.Value.bool false)).bind fun v317 =>
  some (v317, w)
theorem s16eq (x0 : Value) (w : World) : evK Try.prog 16 none (bodyOf Try.f16) none _ { tmps := (([x0] : List Value) ++ List.replicate (11 - 1) undef).toArray, defers := [] } w (leaveK Try.prog Try.f16) = s16 x0 w := by kernel_rfl
theorem c16 {x0 : Value} {w : World} {r : Value × World} (h : s16 x0 w = some r) : C Try.prog 16 #[x0] w = some r :=
  C_ev follows_all drawLaw (by kernel_rfl) Try.func16 (by rfl) ((s16eq x0 w).trans h)
theorem e16 {x0 : Value} {w : World} {Q : Value × World → Prop} (h : Brings (s16 x0 w) Q) : Brings (Xcall Try.prog (Value.func (Fn.func 16) #[] #[]) #[x0] w) Q :=
  h.call (Xcall_fn Try.func16 (by decide +kernel) (by rfl) _ _ _ w) fun _ h => c16 h

/-! lychgate/track.Live -/
noncomputable def s17 (x0 : Value) (w : World) : Option (Value × World) :=
  (Qbin Try.prog Go.BinOp.eql 22 x0 (Go.Value.int Go.IntKind.i64 8)).bind fun v318 =>
  (guardQ v318 false (Qbin Try.prog Go.BinOp.gtr 22 (gv (isB v318 false) x0) (Go.Value.int Go.IntKind.i64 0))).bind fun v319 =>
  (guardQ (gv (isB v318 false) v319) true (Qbin Try.prog Go.BinOp.lss 22 (gv (isB (gv (isB v318 false) v319) true) x0) (Go.Value.int Go.IntKind.i64 7))).bind fun v320 =>
  (guardQ v318 false (Qpick (gv (isB v318 false) v319) v320 (Go.Value.bool false))).bind fun v321 =>
  (Qpick v318 (Go.Value.bool true) v321).bind fun v322 =>
  some (v322, w)
theorem s17eq (x0 : Value) (w : World) : evK Try.prog 17 none (bodyOf Try.f17) none _ { tmps := (([x0] : List Value) ++ List.replicate (13 - 1) undef).toArray, defers := [] } w (leaveK Try.prog Try.f17) = s17 x0 w := by kernel_rfl
theorem c17 {x0 : Value} {w : World} {r : Value × World} (h : s17 x0 w = some r) : C Try.prog 17 #[x0] w = some r :=
  C_ev follows_all drawLaw (by kernel_rfl) Try.func17 (by rfl) ((s17eq x0 w).trans h)
theorem e17 {x0 : Value} {w : World} {Q : Value × World → Prop} (h : Brings (s17 x0 w) Q) : Brings (Xcall Try.prog (Value.func (Fn.func 17) #[] #[]) #[x0] w) Q :=
  h.call (Xcall_fn Try.func17 (by decide +kernel) (by rfl) _ _ _ w) fun _ h => c17 h

/-! lychgate/track.Time -/
noncomputable def s18K0 : Exit → Act → World → Option (Value × World) := seqK (fun a w => evK Try.prog 18 none (nav [1, 1, 1] (bodyOf Try.f18)) none _ a w (leaveK Try.prog Try.f18)) (leaveK Try.prog Try.f18)
noncomputable def s18K1 : Exit → Act → World → Option (Value × World) := blockK 0 s18K0
noncomputable def s18K2 : Exit → Act → World → Option (Value × World) := seqK (fun a w => evK Try.prog 18 none (nav [1, 1, 0, 1, 0, 1, 1, 1] (bodyOf Try.f18)) none _ a w s18K1) s18K1
noncomputable def s18J0 (s : List Value) (d : List Deferred) (w : World) : Option (Value × World) := s18K2 .normal ⟨s.toArray, d⟩ w
noncomputable def s18M1 (s1 s5 s6 : Value) (w : World) : Option (Value × World) :=
  (XmakeMap Try.prog 46 none w).bind fun r336 =>
  (Xinsert Try.prog 46 r336.1 (Go.Value.int Go.IntKind.i64 8) s5 r336.2).bind fun r337 =>
  (Xinsert Try.prog 46 r336.1 (Go.Value.int Go.IntKind.i64 3) s6 r337.2).bind fun r338 =>
  (Xlookup Try.prog 46 r336.1 s1 false r338.2).bind fun r339 =>
  some (r339.1, r339.2)
noncomputable def s18J1 (s : List Value) (d : List Deferred) (w : World) : Option (Value × World) := s18K1 .normal ⟨s.toArray, d⟩ w
noncomputable def s18M0raw (s0 s1 s2 s3 s4 s5 s6 s7 s8 s9 s10 s11 s12 s13 s14 s15 s16 s17 s18 s19 s20 s21 s22 s23 s24 : Value) (w : World) : Option (Value × World) :=
  condK s14 (
    s18J1 [s0, s1, s2, s3, s4, (Go.Value.int Go.IntKind.i64 30), (Go.Value.int Go.IntKind.i64 180), s7, s8, s9, s10, s11, s12, s13, s14, s15, s16, s17, s18, s19, s20, s21, s22, s23, s24] [] w
  ) (
    (Qbin Try.prog Go.BinOp.eql 5 s7 (Go.Value.int Go.IntKind.u8 1)).bind fun v335 =>
    condK v335 (
      s18J1 [s0, s1, s2, s3, s4, (Go.Value.int Go.IntKind.i64 30), (Go.Value.int Go.IntKind.i64 30), s7, s8, s9, s10, s11, s12, s13, s14, s15, s16, v335, v335, s19, s20, s21, s22, s23, s24] [] w
    ) (
      s18J1 [s0, s1, s2, s3, s4, s5, s6, s7, s8, s9, s10, s11, s12, s13, s14, s15, s16, v335, v335, s19, s20, s21, s22, s23, s24] [] w
    )
  )
noncomputable def s18M0 (s1 s5 s6 s7 s14 : Value) (w : World) : Option (Value × World) :=
  condK s14 (
    s18M1 s1 (Go.Value.int Go.IntKind.i64 30) (Go.Value.int Go.IntKind.i64 180) w
  ) (
    (Qbin Try.prog Go.BinOp.eql 5 s7 (Go.Value.int Go.IntKind.u8 1)).bind fun v335 =>
    condK v335 (
      s18M1 s1 (Go.Value.int Go.IntKind.i64 30) (Go.Value.int Go.IntKind.i64 30) w
    ) (
      s18M1 s1 s5 s6 w
    )
  )
noncomputable def s18raw (x0 x1 : Value) (w : World) : Option (Value × World) :=
  (Qbin Try.prog Go.BinOp.eql 5 x0 (Go.Value.int Go.IntKind.u8 6)).bind fun v323 =>
  condK v323 (
    (XmakeMap Try.prog 46 none w).bind fun r324 =>
    (Xinsert Try.prog 46 r324.1 (Go.Value.int Go.IntKind.i64 1) (Go.Value.int Go.IntKind.i64 120) r324.2).bind fun r325 =>
    (Xinsert Try.prog 46 r324.1 (Go.Value.int Go.IntKind.i64 2) (Go.Value.int Go.IntKind.i64 60) r325.2).bind fun r326 =>
    (Xinsert Try.prog 46 r324.1 (Go.Value.int Go.IntKind.i64 3) (Go.Value.int Go.IntKind.i64 432000) r326.2).bind fun r327 =>
    (Xinsert Try.prog 46 r324.1 (Go.Value.int Go.IntKind.i64 4) (Go.Value.int Go.IntKind.i64 120) r327.2).bind fun r328 =>
    (Xinsert Try.prog 46 r324.1 (Go.Value.int Go.IntKind.i64 5) (Go.Value.int Go.IntKind.i64 60) r328.2).bind fun r329 =>
    (Xinsert Try.prog 46 r324.1 (Go.Value.int Go.IntKind.i64 6) (Go.Value.int Go.IntKind.i64 120) r329.2).bind fun r330 =>
    (Xinsert Try.prog 46 r324.1 (Go.Value.int Go.IntKind.i64 7) (Go.Value.int Go.IntKind.i64 10) r330.2).bind fun r331 =>
    (Xlookup Try.prog 46 r324.1 x1 false r331.2).bind fun r332 =>
    some (r332.1, r332.2)
  ) (
    (Qbin Try.prog Go.BinOp.eql 5 x0 (Go.Value.int Go.IntKind.u8 17)).bind fun v333 =>
    condK v333 (
      s18J0 [x0, x1, undef, undef, (Go.Value.int Go.IntKind.i64 0), (Go.Value.int Go.IntKind.i64 0), (Go.Value.int Go.IntKind.i64 0), x0, v323, v323, undef, undef, undef, undef, v333, v333, undef, undef, undef, undef, undef, undef, undef, undef, undef] [] w
    ) (
      (Qbin Try.prog Go.BinOp.eql 5 x0 (Go.Value.int Go.IntKind.u8 47)).bind fun v334 =>
      s18J0 [x0, x1, undef, undef, (Go.Value.int Go.IntKind.i64 0), (Go.Value.int Go.IntKind.i64 0), (Go.Value.int Go.IntKind.i64 0), x0, v323, v323, undef, undef, undef, undef, v334, v333, v334, undef, undef, undef, undef, undef, undef, undef, undef] [] w
    )
  )
noncomputable def s18 (x0 x1 : Value) (w : World) : Option (Value × World) :=
  (Qbin Try.prog Go.BinOp.eql 5 x0 (Go.Value.int Go.IntKind.u8 6)).bind fun v323 =>
  condK v323 (
    (XmakeMap Try.prog 46 none w).bind fun r324 =>
    (Xinsert Try.prog 46 r324.1 (Go.Value.int Go.IntKind.i64 1) (Go.Value.int Go.IntKind.i64 120) r324.2).bind fun r325 =>
    (Xinsert Try.prog 46 r324.1 (Go.Value.int Go.IntKind.i64 2) (Go.Value.int Go.IntKind.i64 60) r325.2).bind fun r326 =>
    (Xinsert Try.prog 46 r324.1 (Go.Value.int Go.IntKind.i64 3) (Go.Value.int Go.IntKind.i64 432000) r326.2).bind fun r327 =>
    (Xinsert Try.prog 46 r324.1 (Go.Value.int Go.IntKind.i64 4) (Go.Value.int Go.IntKind.i64 120) r327.2).bind fun r328 =>
    (Xinsert Try.prog 46 r324.1 (Go.Value.int Go.IntKind.i64 5) (Go.Value.int Go.IntKind.i64 60) r328.2).bind fun r329 =>
    (Xinsert Try.prog 46 r324.1 (Go.Value.int Go.IntKind.i64 6) (Go.Value.int Go.IntKind.i64 120) r329.2).bind fun r330 =>
    (Xinsert Try.prog 46 r324.1 (Go.Value.int Go.IntKind.i64 7) (Go.Value.int Go.IntKind.i64 10) r330.2).bind fun r331 =>
    (Xlookup Try.prog 46 r324.1 x1 false r331.2).bind fun r332 =>
    some (r332.1, r332.2)
  ) (
    (Qbin Try.prog Go.BinOp.eql 5 x0 (Go.Value.int Go.IntKind.u8 17)).bind fun v333 =>
    condK v333 (
      s18M0 x1 (Go.Value.int Go.IntKind.i64 0) (Go.Value.int Go.IntKind.i64 0) x0 v333 w
    ) (
      (Qbin Try.prog Go.BinOp.eql 5 x0 (Go.Value.int Go.IntKind.u8 47)).bind fun v334 =>
      s18M0 x1 (Go.Value.int Go.IntKind.i64 0) (Go.Value.int Go.IntKind.i64 0) x0 v334 w
    )
  )
theorem s18J1eq (s0 s1 s2 s3 s4 s5 s6 s7 s8 s9 s10 s11 s12 s13 s14 s15 s16 s17 s18 s19 s20 s21 s22 s23 s24 : Value) (w : World) : s18J1 [s0, s1, s2, s3, s4, s5, s6, s7, s8, s9, s10, s11, s12, s13, s14, s15, s16, s17, s18, s19, s20, s21, s22, s23, s24] [] w = s18M1 s1 s5 s6 w := by kernel_rfl
theorem s18J1of {s0 s1 s2 s3 s4 s5 s6 s7 s8 s9 s10 s11 s12 s13 s14 s15 s16 s17 s18 s19 s20 s21 s22 s23 s24 : Value} {w : World} {r : _} (h : s18M1 s1 s5 s6 w = some r) : s18J1 [s0, s1, s2, s3, s4, s5, s6, s7, s8, s9, s10, s11, s12, s13, s14, s15, s16, s17, s18, s19, s20, s21, s22, s23, s24] [] w = some r :=
  ((s18J1eq s0 s1 s2 s3 s4 s5 s6 s7 s8 s9 s10 s11 s12 s13 s14 s15 s16 s17 s18 s19 s20 s21 s22 s23 s24 w).trans h)
theorem s18J0eq (s0 s1 s2 s3 s4 s5 s6 s7 s8 s9 s10 s11 s12 s13 s14 s15 s16 s17 s18 s19 s20 s21 s22 s23 s24 : Value) (w : World) : s18J0 [s0, s1, s2, s3, s4, s5, s6, s7, s8, s9, s10, s11, s12, s13, s14, s15, s16, s17, s18, s19, s20, s21, s22, s23, s24] [] w = s18M0raw s0 s1 s2 s3 s4 s5 s6 s7 s8 s9 s10 s11 s12 s13 s14 s15 s16 s17 s18 s19 s20 s21 s22 s23 s24 w := by kernel_rfl
theorem s18J0of {s0 s1 s2 s3 s4 s5 s6 s7 s8 s9 s10 s11 s12 s13 s14 s15 s16 s17 s18 s19 s20 s21 s22 s23 s24 : Value} {w : World} {r : _} (h : s18M0 s1 s5 s6 s7 s14 w = some r) : s18J0 [s0, s1, s2, s3, s4, s5, s6, s7, s8, s9, s10, s11, s12, s13, s14, s15, s16, s17, s18, s19, s20, s21, s22, s23, s24] [] w = some r :=
  ((s18J0eq s0 s1 s2 s3 s4 s5 s6 s7 s8 s9 s10 s11 s12 s13 s14 s15 s16 s17 s18 s19 s20 s21 s22 s23 s24 w).trans ((condK_mono (s18J1of) (Ev.bind_mono fun _ => (condK_mono (s18J1of) (s18J1of)))) h))
theorem s18eq (x0 x1 : Value) (w : World) : evK Try.prog 18 none (bodyOf Try.f18) none _ { tmps := (([x0, x1] : List Value) ++ List.replicate (25 - 2) undef).toArray, defers := [] } w (leaveK Try.prog Try.f18) = s18raw x0 x1 w := by kernel_rfl
theorem c18 {x0 x1 : Value} {w : World} {r : Value × World} (h : s18 x0 x1 w = some r) : C Try.prog 18 #[x0, x1] w = some r :=
  C_ev follows_all drawLaw (by kernel_rfl) Try.func18 (by rfl) ((s18eq x0 x1 w).trans (show s18raw x0 x1 w = some r from (Ev.bind_mono fun _ => (condK_mono id (Ev.bind_mono fun _ => (condK_mono (s18J0of) (Ev.bind_mono fun _ => (s18J0of)))))) h))
theorem e18 {x0 x1 : Value} {w : World} {Q : Value × World → Prop} (h : Brings (s18 x0 x1 w) Q) : Brings (Xcall Try.prog (Value.func (Fn.func 18) #[] #[]) #[x0, x1] w) Q :=
  h.call (Xcall_fn Try.func18 (by decide +kernel) (by rfl) _ _ _ w) fun _ h => c18 h

/-! lychgate/track.Other -/
noncomputable def s19 (x0 x1 : Value) (w : World) : Option (Value × World) :=
  (Qbin Try.prog Go.BinOp.neq 22 x0 (Go.Value.int Go.IntKind.i64 3)).bind fun v340 =>
  (guardQ v340 true (Qun Go.UnOp.not (gv (isB v340 true) x1))).bind fun v341 =>
  (Qpick v340 v341 (Go.Value.bool false)).bind fun v342 =>
  condK v342 (
    some ((Go.Value.int Go.IntKind.i64 8), w)
  ) (
    some ((Go.Value.int Go.IntKind.i64 3), w)
  )
theorem s19eq (x0 x1 : Value) (w : World) : evK Try.prog 19 none (bodyOf Try.f19) none _ { tmps := (([x0, x1] : List Value) ++ List.replicate (11 - 2) undef).toArray, defers := [] } w (leaveK Try.prog Try.f19) = s19 x0 x1 w := by kernel_rfl
theorem c19 {x0 x1 : Value} {w : World} {r : Value × World} (h : s19 x0 x1 w = some r) : C Try.prog 19 #[x0, x1] w = some r :=
  C_ev follows_all drawLaw (by kernel_rfl) Try.func19 (by rfl) ((s19eq x0 x1 w).trans h)
theorem e19 {x0 x1 : Value} {w : World} {Q : Value × World → Prop} (h : Brings (s19 x0 x1 w) Q) : Brings (Xcall Try.prog (Value.func (Fn.func 19) #[] #[]) #[x0, x1] w) Q :=
  h.call (Xcall_fn Try.func19 (by decide +kernel) (by rfl) _ _ _ w) fun _ h => c19 h

/-! lychgate/lychgateref07.Other -/
noncomputable def s20 (x0 x1 : Value) (w : World) : Option (Value × World) :=
  (guardQ x1 false (Qbin Try.prog Go.BinOp.eql 22 (gv (isB x1 false) x0) (Go.Value.int Go.IntKind.i64 3))).bind fun v343 =>
  (Qpick x1 (Go.Value.bool true) v343).bind fun v344 =>
  condK v344 (
    some ((Go.Value.int Go.IntKind.i64 3), w)
  ) (
    some ((Go.Value.int Go.IntKind.i64 8), w)
  )
theorem s20eq (x0 x1 : Value) (w : World) : evK Try.prog 20 none (bodyOf Try.f20) none _ { tmps := (([x0, x1] : List Value) ++ List.replicate (10 - 2) undef).toArray, defers := [] } w (leaveK Try.prog Try.f20) = s20 x0 x1 w := by kernel_rfl
theorem c20 {x0 x1 : Value} {w : World} {r : Value × World} (h : s20 x0 x1 w = some r) : C Try.prog 20 #[x0, x1] w = some r :=
  C_ev follows_all drawLaw (by kernel_rfl) Try.func20 (by rfl) ((s20eq x0 x1 w).trans h)
theorem e20 {x0 x1 : Value} {w : World} {Q : Value × World → Prop} (h : Brings (s20 x0 x1 w) Q) : Brings (Xcall Try.prog (Value.func (Fn.func 20) #[] #[]) #[x0, x1] w) Q :=
  h.call (Xcall_fn Try.func20 (by decide +kernel) (by rfl) _ _ _ w) fun _ h => c20 h

/-! lychgate/lychgateref07.Time -/
noncomputable def s21K0 : Exit → Act → World → Option (Value × World) := seqK (fun a w => evK Try.prog 21 none (nav [1, 1] (bodyOf Try.f21)) none _ a w (leaveK Try.prog Try.f21)) (leaveK Try.prog Try.f21)
noncomputable def s21K1 : Exit → Act → World → Option (Value × World) := seqK (fun a w => evK Try.prog 21 none (nav [1, 0, 1, 0, 1] (bodyOf Try.f21)) none _ a w s21K0) s21K0
noncomputable def s21K2 : Exit → Act → World → Option (Value × World) := blockK 0 s21K1
noncomputable def s21K3 : Exit → Act → World → Option (Value × World) := seqK (fun a w => evK Try.prog 21 none (nav [1, 0, 1, 0, 0, 1, 0, 1] (bodyOf Try.f21)) none _ a w s21K2) s21K2
noncomputable def s21J0 (s : List Value) (d : List Deferred) (w : World) : Option (Value × World) := s21K3 .normal ⟨s.toArray, d⟩ w
noncomputable def s21M1 (s7 s12 : Value) (w : World) : Option (Value × World) :=
  condK s12 (
    some ((Go.Value.int Go.IntKind.i64 60), w)
  ) (
    (Qbin Try.prog Go.BinOp.eql 22 s7 (Go.Value.int Go.IntKind.i64 3)).bind fun v359 =>
    condK v359 (
      some ((Go.Value.int Go.IntKind.i64 432000), w)
    ) (
      (Qbin Try.prog Go.BinOp.eql 22 s7 (Go.Value.int Go.IntKind.i64 7)).bind fun v360 =>
      condK v360 (
        some ((Go.Value.int Go.IntKind.i64 10), w)
      ) (
        some ((Go.Value.int Go.IntKind.i64 0), w)
      )
    )
  )
noncomputable def s21K4 : Exit → Act → World → Option (Value × World) := seqK (fun a w => evK Try.prog 21 none (nav [1, 0, 1, 0, 0, 1, 0, 1, 1, 1] (bodyOf Try.f21)) none _ a w s21K2) s21K2
noncomputable def s21J1 (s : List Value) (d : List Deferred) (w : World) : Option (Value × World) := s21K4 .normal ⟨s.toArray, d⟩ w
noncomputable def s21M0raw (s0 s1 s2 s3 s4 s5 s6 s7 s8 s9 s10 s11 _s12 _s13 s14 s15 s16 s17 s18 s19 s20 s21 s22 s23 s24 s25 s26 s27 s28 s29 s30 s31 s32 : Value) (w : World) : Option (Value × World) :=
  condK s8 (
    some ((Go.Value.int Go.IntKind.i64 120), w)
  ) (
    (Qbin Try.prog Go.BinOp.eql 22 s7 (Go.Value.int Go.IntKind.i64 2)).bind fun v357 =>
    condK v357 (
      s21J1 [s0, s1, s2, s3, s4, s5, s6, s7, s8, s9, s10, s11, v357, v357, s14, s15, s16, s17, s18, s19, s20, s21, s22, s23, s24, s25, s26, s27, s28, s29, s30, s31, s32] [] w
    ) (
      (Qbin Try.prog Go.BinOp.eql 22 s7 (Go.Value.int Go.IntKind.i64 5)).bind fun v358 =>
      s21J1 [s0, s1, s2, s3, s4, s5, s6, s7, s8, s9, s10, s11, v358, v357, v358, s15, s16, s17, s18, s19, s20, s21, s22, s23, s24, s25, s26, s27, s28, s29, s30, s31, s32] [] w
    )
  )
noncomputable def s21M0 (s7 s8 : Value) (w : World) : Option (Value × World) :=
  condK s8 (
    some ((Go.Value.int Go.IntKind.i64 120), w)
  ) (
    (Qbin Try.prog Go.BinOp.eql 22 s7 (Go.Value.int Go.IntKind.i64 2)).bind fun v357 =>
    condK v357 (
      s21M1 s7 v357 w
    ) (
      (Qbin Try.prog Go.BinOp.eql 22 s7 (Go.Value.int Go.IntKind.i64 5)).bind fun v358 =>
      s21M1 s7 v358 w
    )
  )
noncomputable def s21raw (x0 x1 : Value) (w : World) : Option (Value × World) :=
  (Qbin Try.prog Go.BinOp.eql 5 x0 (Go.Value.int Go.IntKind.u8 6)).bind fun v345 =>
  condK v345 (
    (Qbin Try.prog Go.BinOp.eql 22 x1 (Go.Value.int Go.IntKind.i64 1)).bind fun v346 =>
    condK v346 (
      s21J0 [x0, x1, undef, undef, (Go.Value.int Go.IntKind.i64 0), x0, v345, x1, v346, v346, undef, undef, undef, undef, undef, undef, undef, undef, undef, undef, undef, undef, undef, undef, undef, undef, undef, undef, undef, undef, undef, undef, undef] [] w
    ) (
      (Qbin Try.prog Go.BinOp.eql 22 x1 (Go.Value.int Go.IntKind.i64 4)).bind fun v347 =>
      condK v347 (
        s21J0 [x0, x1, undef, undef, (Go.Value.int Go.IntKind.i64 0), x0, v345, x1, v347, v346, v347, undef, undef, undef, undef, undef, undef, undef, undef, undef, undef, undef, undef, undef, undef, undef, undef, undef, undef, undef, undef, undef, undef] [] w
      ) (
        (Qbin Try.prog Go.BinOp.eql 22 x1 (Go.Value.int Go.IntKind.i64 6)).bind fun v348 =>
        s21J0 [x0, x1, undef, undef, (Go.Value.int Go.IntKind.i64 0), x0, v345, x1, v348, v346, v347, v348, undef, undef, undef, undef, undef, undef, undef, undef, undef, undef, undef, undef, undef, undef, undef, undef, undef, undef, undef, undef, undef] [] w
      )
    )
  ) (
    (Qbin Try.prog Go.BinOp.neq 22 x1 (Go.Value.int Go.IntKind.i64 8)).bind fun v349 =>
    (guardQ v349 true (Qbin Try.prog Go.BinOp.neq 22 (gv (isB v349 true) x1) (Go.Value.int Go.IntKind.i64 3))).bind fun v350 =>
    (Qpick v349 v350 (Go.Value.bool false)).bind fun v351 =>
    condK v351 (
      some ((Go.Value.int Go.IntKind.i64 0), w)
    ) (
      (Qbin Try.prog Go.BinOp.eql 5 x0 (Go.Value.int Go.IntKind.u8 1)).bind fun v352 =>
      condK v352 (
        some ((Go.Value.int Go.IntKind.i64 30), w)
      ) (
        (Qbin Try.prog Go.BinOp.eql 5 x0 (Go.Value.int Go.IntKind.u8 17)).bind fun v353 =>
        condK v353 (
          condK v353 (
            (Qbin Try.prog Go.BinOp.eql 22 x1 (Go.Value.int Go.IntKind.i64 8)).bind fun v354 =>
            condK v354 (
              some ((Go.Value.int Go.IntKind.i64 30), w)
            ) (
              some ((Go.Value.int Go.IntKind.i64 180), w)
            )
          ) (
            some ((Go.Value.int Go.IntKind.i64 0), w)
          )
        ) (
          (Qbin Try.prog Go.BinOp.eql 5 x0 (Go.Value.int Go.IntKind.u8 47)).bind fun v355 =>
          condK v355 (
            (Qbin Try.prog Go.BinOp.eql 22 x1 (Go.Value.int Go.IntKind.i64 8)).bind fun v356 =>
            condK v356 (
              some ((Go.Value.int Go.IntKind.i64 30), w)
            ) (
              some ((Go.Value.int Go.IntKind.i64 180), w)
            )
          ) (
            some ((Go.Value.int Go.IntKind.i64 0), w)
          )
        )
      )
    )
  )
noncomputable def s21 (x0 x1 : Value) (w : World) : Option (Value × World) :=
  (Qbin Try.prog Go.BinOp.eql 5 x0 (Go.Value.int Go.IntKind.u8 6)).bind fun v345 =>
  condK v345 (
    (Qbin Try.prog Go.BinOp.eql 22 x1 (Go.Value.int Go.IntKind.i64 1)).bind fun v346 =>
    condK v346 (
      s21M0 x1 v346 w
    ) (
      (Qbin Try.prog Go.BinOp.eql 22 x1 (Go.Value.int Go.IntKind.i64 4)).bind fun v347 =>
      condK v347 (
        s21M0 x1 v347 w
      ) (
        (Qbin Try.prog Go.BinOp.eql 22 x1 (Go.Value.int Go.IntKind.i64 6)).bind fun v348 =>
        s21M0 x1 v348 w
      )
    )
  ) (
    (Qbin Try.prog Go.BinOp.neq 22 x1 (Go.Value.int Go.IntKind.i64 8)).bind fun v349 =>
    (guardQ v349 true (Qbin Try.prog Go.BinOp.neq 22 (gv (isB v349 true) x1) (Go.Value.int Go.IntKind.i64 3))).bind fun v350 =>
    (Qpick v349 v350 (Go.Value.bool false)).bind fun v351 =>
    condK v351 (
      some ((Go.Value.int Go.IntKind.i64 0), w)
    ) (
      (Qbin Try.prog Go.BinOp.eql 5 x0 (Go.Value.int Go.IntKind.u8 1)).bind fun v352 =>
      condK v352 (
        some ((Go.Value.int Go.IntKind.i64 30), w)
      ) (
        (Qbin Try.prog Go.BinOp.eql 5 x0 (Go.Value.int Go.IntKind.u8 17)).bind fun v353 =>
        condK v353 (
          condK v353 (
            (Qbin Try.prog Go.BinOp.eql 22 x1 (Go.Value.int Go.IntKind.i64 8)).bind fun v354 =>
            condK v354 (
              some ((Go.Value.int Go.IntKind.i64 30), w)
            ) (
              some ((Go.Value.int Go.IntKind.i64 180), w)
            )
          ) (
            some ((Go.Value.int Go.IntKind.i64 0), w)
          )
        ) (
          (Qbin Try.prog Go.BinOp.eql 5 x0 (Go.Value.int Go.IntKind.u8 47)).bind fun v355 =>
          condK v355 (
            (Qbin Try.prog Go.BinOp.eql 22 x1 (Go.Value.int Go.IntKind.i64 8)).bind fun v356 =>
            condK v356 (
              some ((Go.Value.int Go.IntKind.i64 30), w)
            ) (
              some ((Go.Value.int Go.IntKind.i64 180), w)
            )
          ) (
            some ((Go.Value.int Go.IntKind.i64 0), w)
          )
        )
      )
    )
  )
theorem s21J1eq (s0 s1 s2 s3 s4 s5 s6 s7 s8 s9 s10 s11 s12 s13 s14 s15 s16 s17 s18 s19 s20 s21 s22 s23 s24 s25 s26 s27 s28 s29 s30 s31 s32 : Value) (w : World) : s21J1 [s0, s1, s2, s3, s4, s5, s6, s7, s8, s9, s10, s11, s12, s13, s14, s15, s16, s17, s18, s19, s20, s21, s22, s23, s24, s25, s26, s27, s28, s29, s30, s31, s32] [] w = s21M1 s7 s12 w := by kernel_rfl
theorem s21J1of {s0 s1 s2 s3 s4 s5 s6 s7 s8 s9 s10 s11 s12 s13 s14 s15 s16 s17 s18 s19 s20 s21 s22 s23 s24 s25 s26 s27 s28 s29 s30 s31 s32 : Value} {w : World} {r : _} (h : s21M1 s7 s12 w = some r) : s21J1 [s0, s1, s2, s3, s4, s5, s6, s7, s8, s9, s10, s11, s12, s13, s14, s15, s16, s17, s18, s19, s20, s21, s22, s23, s24, s25, s26, s27, s28, s29, s30, s31, s32] [] w = some r :=
  ((s21J1eq s0 s1 s2 s3 s4 s5 s6 s7 s8 s9 s10 s11 s12 s13 s14 s15 s16 s17 s18 s19 s20 s21 s22 s23 s24 s25 s26 s27 s28 s29 s30 s31 s32 w).trans h)
theorem s21J0eq (s0 s1 s2 s3 s4 s5 s6 s7 s8 s9 s10 s11 s12 s13 s14 s15 s16 s17 s18 s19 s20 s21 s22 s23 s24 s25 s26 s27 s28 s29 s30 s31 s32 : Value) (w : World) : s21J0 [s0, s1, s2, s3, s4, s5, s6, s7, s8, s9, s10, s11, s12, s13, s14, s15, s16, s17, s18, s19, s20, s21, s22, s23, s24, s25, s26, s27, s28, s29, s30, s31, s32] [] w = s21M0raw s0 s1 s2 s3 s4 s5 s6 s7 s8 s9 s10 s11 s12 s13 s14 s15 s16 s17 s18 s19 s20 s21 s22 s23 s24 s25 s26 s27 s28 s29 s30 s31 s32 w := by kernel_rfl
theorem s21J0of {s0 s1 s2 s3 s4 s5 s6 s7 s8 s9 s10 s11 s12 s13 s14 s15 s16 s17 s18 s19 s20 s21 s22 s23 s24 s25 s26 s27 s28 s29 s30 s31 s32 : Value} {w : World} {r : _} (h : s21M0 s7 s8 w = some r) : s21J0 [s0, s1, s2, s3, s4, s5, s6, s7, s8, s9, s10, s11, s12, s13, s14, s15, s16, s17, s18, s19, s20, s21, s22, s23, s24, s25, s26, s27, s28, s29, s30, s31, s32] [] w = some r :=
  ((s21J0eq s0 s1 s2 s3 s4 s5 s6 s7 s8 s9 s10 s11 s12 s13 s14 s15 s16 s17 s18 s19 s20 s21 s22 s23 s24 s25 s26 s27 s28 s29 s30 s31 s32 w).trans ((condK_mono id (Ev.bind_mono fun _ => (condK_mono (s21J1of) (Ev.bind_mono fun _ => (s21J1of))))) h))
theorem s21eq (x0 x1 : Value) (w : World) : evK Try.prog 21 none (bodyOf Try.f21) none _ { tmps := (([x0, x1] : List Value) ++ List.replicate (33 - 2) undef).toArray, defers := [] } w (leaveK Try.prog Try.f21) = s21raw x0 x1 w := by kernel_rfl
theorem c21 {x0 x1 : Value} {w : World} {r : Value × World} (h : s21 x0 x1 w = some r) : C Try.prog 21 #[x0, x1] w = some r :=
  C_ev follows_all drawLaw (by kernel_rfl) Try.func21 (by rfl) ((s21eq x0 x1 w).trans (show s21raw x0 x1 w = some r from (Ev.bind_mono fun _ => (condK_mono (Ev.bind_mono fun _ => (condK_mono (s21J0of) (Ev.bind_mono fun _ => (condK_mono (s21J0of) (Ev.bind_mono fun _ => (s21J0of)))))) id)) h))
theorem e21 {x0 x1 : Value} {w : World} {Q : Value × World → Prop} (h : Brings (s21 x0 x1 w) Q) : Brings (Xcall Try.prog (Value.func (Fn.func 21) #[] #[]) #[x0, x1] w) Q :=
  h.call (Xcall_fn Try.func21 (by decide +kernel) (by rfl) _ _ _ w) fun _ h => c21 h

/-! lychgate/lychgateref07.Live -/
noncomputable def s22 (x0 : Value) (w : World) : Option (Value × World) :=
  (Qbin Try.prog Go.BinOp.geq 22 x0 (Go.Value.int Go.IntKind.i64 1)).bind fun v361 =>
  (guardQ v361 true (Qbin Try.prog Go.BinOp.leq 22 (gv (isB v361 true) x0) (Go.Value.int Go.IntKind.i64 6))).bind fun v362 =>
  (Qpick v361 v362 (Go.Value.bool false)).bind fun v363 =>
  (guardQ v363 false (Qbin Try.prog Go.BinOp.eql 22 (gv (isB v363 false) x0) (Go.Value.int Go.IntKind.i64 8))).bind fun v364 =>
  (Qpick v363 (Go.Value.bool true) v364).bind fun v365 =>
  some (v365, w)
theorem s22eq (x0 : Value) (w : World) : evK Try.prog 22 none (bodyOf Try.f22) none _ { tmps := (([x0] : List Value) ++ List.replicate (13 - 1) undef).toArray, defers := [] } w (leaveK Try.prog Try.f22) = s22 x0 w := by kernel_rfl
theorem c22 {x0 : Value} {w : World} {r : Value × World} (h : s22 x0 w = some r) : C Try.prog 22 #[x0] w = some r :=
  C_ev follows_all drawLaw (by kernel_rfl) Try.func22 (by rfl) ((s22eq x0 w).trans h)
theorem e22 {x0 : Value} {w : World} {Q : Value × World → Prop} (h : Brings (s22 x0 w) Q) : Brings (Xcall Try.prog (Value.func (Fn.func 22) #[] #[]) #[x0] w) Q :=
  h.call (Xcall_fn Try.func22 (by decide +kernel) (by rfl) _ _ _ w) fun _ h => c22 h

/-! lychgate/track.newsOf -/
noncomputable def s23 (x0 x1 : Value) (w : World) : Option (Value × World) :=
  (Xbox Try.prog 5 x1 w).bind fun r366 =>
  (some (Value.func (Go.Fn.func 25) #[] #[r366.1])).bind fun v367 =>
  (Xcall Try.prog v367 #[(Go.Value.int Go.IntKind.u8 4)] r366.2).bind fun r368 =>
  condK r368.1 (
    some ((Value.tuple #[(Go.Value.int Go.IntKind.i64 1), (Go.Value.bool true)]), r368.2)
  ) (
    (Xcall Try.prog v367 #[(Go.Value.int Go.IntKind.u8 2)] r368.2).bind fun r369 =>
    (guardX r369.1 true r369.2 (Xcall Try.prog (gv (isB r369.1 true) v367) #[(Go.Value.int Go.IntKind.u8 1)] r369.2)).bind fun r370 =>
    (Qpick r369.1 r370.1 (Go.Value.bool false)).bind fun v371 =>
    condK v371 (
      some ((Value.tuple #[(Go.Value.int Go.IntKind.i64 0), (Go.Value.bool false)]), r370.2)
    ) (
      (Xcall Try.prog v367 #[(Go.Value.int Go.IntKind.u8 2)] r370.2).bind fun r372 =>
      (guardQ r372.1 true (Qun Go.UnOp.not (gv (isB r372.1 true) x0))).bind fun v373 =>
      (Qpick r372.1 v373 (Go.Value.bool false)).bind fun v374 =>
      (guardQ v374 true (Qload Try.prog 5 r366.1 r372.2)).bind fun v375 =>
      (guardX v374 true r372.2 (Xcall Try.prog (Value.func (Fn.func 15) #[] #[]) #[v375] r372.2)).bind fun r376 =>
      (Qpick v374 r376.1 (Go.Value.bool false)).bind fun v377 =>
      condK v377 (
        some ((Value.tuple #[(Go.Value.int Go.IntKind.i64 2), (Go.Value.bool true)]), r376.2)
      ) (
        (Xcall Try.prog v367 #[(Go.Value.int Go.IntKind.u8 2)] r376.2).bind fun r378 =>
        condK r378.1 (
          some ((Value.tuple #[(Go.Value.int Go.IntKind.i64 3), (Go.Value.bool true)]), r378.2)
        ) (
          (Xcall Try.prog v367 #[(Go.Value.int Go.IntKind.u8 1)] r378.2).bind fun r379 =>
          condK r379.1 (
            some ((Value.tuple #[(Go.Value.int Go.IntKind.i64 4), (Go.Value.bool true)]), r379.2)
          ) (
            (Xcall Try.prog v367 #[(Go.Value.int Go.IntKind.u8 16)] r379.2).bind fun r380 =>
            condK r380.1 (
              some ((Value.tuple #[(Go.Value.int Go.IntKind.i64 5), (Go.Value.bool true)]), r380.2)
            ) (
              some ((Value.tuple #[(Go.Value.int Go.IntKind.i64 0), (Go.Value.bool true)]), r380.2)
            )
          )
        )
      )
    )
  )
theorem s23eq (x0 x1 : Value) (w : World) : evK Try.prog 23 none (bodyOf Try.f23) none _ { tmps := (([x0, x1] : List Value) ++ List.replicate (38 - 2) undef).toArray, defers := [] } w (leaveK Try.prog Try.f23) = s23 x0 x1 w := by kernel_rfl
theorem c23 {x0 x1 : Value} {w : World} {r : Value × World} (h : s23 x0 x1 w = some r) : C Try.prog 23 #[x0, x1] w = some r :=
  C_ev follows_all drawLaw (by kernel_rfl) Try.func23 (by rfl) ((s23eq x0 x1 w).trans h)
theorem e23 {x0 x1 : Value} {w : World} {Q : Value × World → Prop} (h : Brings (s23 x0 x1 w) Q) : Brings (Xcall Try.prog (Value.func (Fn.func 23) #[] #[]) #[x0, x1] w) Q :=
  h.call (Xcall_fn Try.func23 (by decide +kernel) (by rfl) _ _ _ w) fun _ h => c23 h

/-! lychgate/track.steps -/
noncomputable def s24K0 : Exit → Act → World → Option (Value × World) := seqK (fun a w => evK Try.prog 24 none (nav [1, 1] (bodyOf Try.f24)) none _ a w (leaveK Try.prog Try.f24)) (leaveK Try.prog Try.f24)
noncomputable def s24J0 (s : List Value) (d : List Deferred) (w : World) : Option (Value × World) := s24K0 .normal ⟨s.toArray, d⟩ w
noncomputable def s24B1 : List Value → World → Option (Exit × List Value × World)
  | [x1, x2], w =>
    (Qbin Try.prog Go.BinOp.leq 22 x2 (Go.Value.int Go.IntKind.i64 7)).bind fun v381 =>
    condK v381 (
      (Qbuild Try.prog 45 #[(0, x2), (1, (Go.Value.int Go.IntKind.i64 1))] w).bind fun v382 =>
      (Xinsert Try.prog 42 x1 v382 (Go.Value.int Go.IntKind.i64 7) w).bind fun r383 =>
      (Qbin Try.prog Go.BinOp.add 22 x2 (Go.Value.int Go.IntKind.i64 1)).bind fun v384 =>
      some (Exit.normal, [x1, v384], r383.2)
    ) (
      some ((Exit.exit 0), [x1, x2], w)
    )
  | _, _ => none
noncomputable def s24R1 : Exit → List Value → World → Option (Value × World)
  | (Exit.exit 0), [x1, _], w =>
    some (x1, w)
  | _, _, _ => none
noncomputable def s24K1 : Exit → Act → World → Option (Value × World) := seqK (fun a w => evK Try.prog 24 none (nav [1, 1, 1] (bodyOf Try.f24)) none _ a w (leaveK Try.prog Try.f24)) (leaveK Try.prog Try.f24)
noncomputable def s24K2 : Exit → Act → World → Option (Value × World) := blockK 0 s24K1
noncomputable def s24L1 (s : List Value) (d : List Deferred) (w : World) : Option (Value × World) := loopN Try.prog 24 none (nav [1, 1, 0, 1, 0, 0] (bodyOf Try.f24)) s24K2 s d w
noncomputable def s24M0raw (s0 s1 _s2 s3 s4 s5 s6 s7 s8 s9 s10 s11 s12 s13 s14 s15 s16 s17 s18 s19 s20 s21 s22 s23 s24 s25 s26 s27 s28 : Value) (w : World) : Option (Value × World) :=
  s24L1 [s0, s1, (Go.Value.int Go.IntKind.i64 1), s3, s4, s5, s6, s7, s8, s9, s10, s11, s12, s13, s14, s15, s16, s17, s18, s19, s20, s21, s22, s23, s24, s25, s26, s27, s28] [] w
noncomputable def s24M0 (s1 : Value) (w : World) : Option (Value × World) :=
  loopR s24B1 s24R1 [s1, (Go.Value.int Go.IntKind.i64 1)] w
noncomputable def s24raw (w : World) : Option (Value × World) :=
  evDraw Try.prog 24 1 (opsOf (nav [1, 0] (bodyOf Try.f24))) ⟨[(Go.Value.map none), undef, undef, undef, undef, undef, undef, undef, undef, undef, undef, undef, undef, undef, undef, undef, undef, undef, undef, undef, undef, undef, undef, undef, undef, undef, undef, undef, undef].toArray, []⟩ w (fun a w => s24K0 .normal a w)
noncomputable def s24 (w : World) : Option (Value × World) :=
  (evIdx Try.prog (opsOf (nav [1, 0] (bodyOf Try.f24))) (Region.linearise .any (opsOf (nav [1, 0] (bodyOf Try.f24))) (w.tape w.drawn (.order 24 1))) ⟨[(Go.Value.map none), undef, undef, undef, undef, undef, undef, undef, undef, undef, undef, undef, undef, undef, undef, undef, undef, undef, undef, undef, undef, undef, undef, undef, undef, undef, undef, undef, undef].toArray, []⟩ w.drew).bind fun x => s24M0 (x.1.tmps.getD 1 undef) x.2
theorem s24B1eq (x1 x2 : Value) (w : World) (g : Nat → Value) (d : List Deferred) : evK Try.prog 24 none (nav [1, 1, 0, 1, 0, 0] (bodyOf Try.f24)) none _ (frm 29 (setL [1, 2] [x1, x2] g) d) w (projK [1, 2]) = s24B1 [x1, x2] w := by kernel_rfl
theorem s24R1x0eq (x1 x2 : Value) (g : Nat → Value) (w : World) : s24K2 (Exit.exit 0) (frm 29 (setL [1, 2] [x1, x2] g) []) w = s24R1 (Exit.exit 0) [x1, x2] w := by kernel_rfl
theorem s24R1of : ∀ (e : Exit) (xs : List Value) (w : World) (g : Nat → Value) (y : _), s24R1 e xs w = some y → s24K2 e (frm 29 (setL [1, 2] xs g) []) w = some y := by
  intro e xs w g y h
  unfold s24R1 at h
  split at h
  · exact (s24R1x0eq _ _ g _).trans h
  · cases h
theorem s24L1of {s0 s1 s2 s3 s4 s5 s6 s7 s8 s9 s10 s11 s12 s13 s14 s15 s16 s17 s18 s19 s20 s21 s22 s23 s24 s25 s26 s27 s28 : Value} {w : World} {r : _} (h : loopR s24B1 s24R1 [s1, s2] w = some r) : s24L1 [s0, s1, s2, s3, s4, s5, s6, s7, s8, s9, s10, s11, s12, s13, s14, s15, s16, s17, s18, s19, s20, s21, s22, s23, s24, s25, s26, s27, s28] [] w = some r :=
  loopN_of (B := s24B1) (R := s24R1) (n := 29) (live := [1, 2]) (fun xs w g y hl h => match xs, hl, h with | [x1, x2], _, h => (s24B1eq x1 x2 w g []).trans h) (by kernel_rfl) (s24R1of) (fun i => ([s0, s1, s2, s3, s4, s5, s6, s7, s8, s9, s10, s11, s12, s13, s14, s15, s16, s17, s18, s19, s20, s21, s22, s23, s24, s25, s26, s27, s28] : List Value).getD i undef) (by kernel_rfl) rfl h
theorem s24J0eq (s0 s1 s2 s3 s4 s5 s6 s7 s8 s9 s10 s11 s12 s13 s14 s15 s16 s17 s18 s19 s20 s21 s22 s23 s24 s25 s26 s27 s28 : Value) (w : World) : s24J0 [s0, s1, s2, s3, s4, s5, s6, s7, s8, s9, s10, s11, s12, s13, s14, s15, s16, s17, s18, s19, s20, s21, s22, s23, s24, s25, s26, s27, s28] [] w = s24M0raw s0 s1 s2 s3 s4 s5 s6 s7 s8 s9 s10 s11 s12 s13 s14 s15 s16 s17 s18 s19 s20 s21 s22 s23 s24 s25 s26 s27 s28 w := by kernel_rfl
theorem s24J0of {s0 s1 s2 s3 s4 s5 s6 s7 s8 s9 s10 s11 s12 s13 s14 s15 s16 s17 s18 s19 s20 s21 s22 s23 s24 s25 s26 s27 s28 : Value} {w : World} {r : _} (h : s24M0 s1 w = some r) : s24J0 [s0, s1, s2, s3, s4, s5, s6, s7, s8, s9, s10, s11, s12, s13, s14, s15, s16, s17, s18, s19, s20, s21, s22, s23, s24, s25, s26, s27, s28] [] w = some r :=
  ((s24J0eq s0 s1 s2 s3 s4 s5 s6 s7 s8 s9 s10 s11 s12 s13 s14 s15 s16 s17 s18 s19 s20 s21 s22 s23 s24 s25 s26 s27 s28 w).trans ((s24L1of) h))
theorem s24J0fr (g : Nat → Value) (w : World) : s24K0 .normal (frm 29 g []) w = s24J0 [g 0, g 1, g 2, g 3, g 4, g 5, g 6, g 7, g 8, g 9, g 10, g 11, g 12, g 13, g 14, g 15, g 16, g 17, g 18, g 19, g 20, g 21, g 22, g 23, g 24, g 25, g 26, g 27, g 28] [] w := by kernel_rfl
theorem s24eq (w : World) : evK Try.prog 24 none (bodyOf Try.f24) none _ { tmps := (([] : List Value) ++ List.replicate (29 - 0) undef).toArray, defers := [] } w (leaveK Try.prog Try.f24) = s24raw  w := by kernel_rfl
theorem c24 {w : World} {r : Value × World} (h : s24  w = some r) : C Try.prog 24 #[] w = some r :=
  C_ev follows_all drawLaw (by kernel_rfl) Try.func24 (by rfl) ((s24eq  w).trans (show s24raw  w = some r from (evDraw_tape (n := 29) (M := fun g w => s24M0 (g 1) w) (by kernel_rfl) (by rfl) rfl (fun g w y h => (s24J0fr g w).trans (s24J0of h))) h))
theorem e24 {w : World} {Q : Value × World → Prop} (h : Brings (s24  w) Q) : Brings (Xcall Try.prog (Value.func (Fn.func 24) #[] #[]) #[] w) Q :=
  h.call (Xcall_fn Try.func24 (by decide +kernel) (by rfl) _ _ _ w) fun _ h => c24 h

/-! lychgate/track.newsOf$1 -/
noncomputable def s25 (x0 x1 : Value) (w : World) : Option (Value × World) :=
  (Qload Try.prog 5 x1 w).bind fun v385 =>
  (Qbin Try.prog Go.BinOp.and 5 v385 x0).bind fun v386 =>
  (Qbin Try.prog Go.BinOp.neq 5 v386 (Go.Value.int Go.IntKind.u8 0)).bind fun v387 =>
  some (v387, w)
theorem s25eq (x0 x1 : Value) (w : World) : evK Try.prog 25 none (bodyOf Try.f25) none _ { tmps := (([x0, x1] : List Value) ++ List.replicate (8 - 2) undef).toArray, defers := [] } w (leaveK Try.prog Try.f25) = s25 x0 x1 w := by kernel_rfl
theorem c25 {x0 x1 : Value} {w : World} {r : Value × World} (h : s25 x0 x1 w = some r) : C Try.prog 25 #[x0, x1] w = some r :=
  C_ev follows_all drawLaw (by kernel_rfl) Try.func25 (by rfl) ((s25eq x0 x1 w).trans h)
theorem e25 {x0 x1 : Value} {w : World} {Q : Value × World → Prop} (h : Brings (s25 x0 x1 w) Q) : Brings (Xcall Try.prog (Value.func (Fn.func 25) #[] #[x1]) #[x0] w) Q :=
  h.call (Xcall_fn Try.func25 (by decide +kernel) (by rfl) _ _ _ w) fun _ h => c25 h

end Go.Proofs.Ytmhpecfgipmgaaa
