/- The functions of the program, by their texts. -/
import Derived.Test.YtphokckbcmiddaaDoorMFw
namespace Go.Proofs.YtphokckbcmiddaaDoor
open Go Go.Ev
open Go.Proofs
/-! lychgate/lychgatelaw13.FtpLines -/
noncomputable def s4 (x0 x1 : Value) (w : World) : Option (Value × World) :=
  (Xcall Tryd.prog (Value.func (Fn.func 10) #[] #[]) #[x0, x1] w).bind fun r1 =>
  (Qext r1.1 0).bind fun v2 =>
  (Qext r1.1 1).bind fun v3 =>
  (Xalloc Tryd.prog 27 r1.2).bind fun r4 =>
  (Xstore Tryd.prog 27 r4.1 v2 r4.2).bind fun r5 =>
  (Qun .not v3).bind fun v6 =>
  condK v6 (
    (Xcall Tryd.prog (Value.func (Fn.func 12) #[] #[]) #[] r5.2).bind fun r7 =>
    some (r7.1, r7.2)
  ) (
    (Qlen Tryd.prog #[22] 3 #[x0] r5.2).bind fun v8 =>
    (Qbin Tryd.prog .sub 3 v8 (Value.int .i64 1)).bind fun v9 =>
    (Qslice Tryd.prog 22 x0 none (some v9) none r5.2).bind fun v10 =>
    (Xcall Tryd.prog (Value.func (Fn.func 10) #[] #[]) #[v10, x1] r5.2).bind fun r11 =>
    (Qext r11.1 0).bind fun v12 =>
    (Qext r11.1 1).bind fun v13 =>
    (Xalloc Tryd.prog 27 r11.2).bind fun r14 =>
    (Xstore Tryd.prog 27 r14.1 v12 r14.2).bind fun r15 =>
    (XbuildSlice Tryd.prog 22 0 #[] r15.2).bind fun r16 =>
    (Xbi Tryd.prog Go.Builtin.append #[22, 22] 22 #[r16.1, x0] r16.2).bind fun r17 =>
    (Xbi Tryd.prog Go.Builtin.append #[22, 22] 22 #[r17.1, x0] r17.2).bind fun r18 =>
    (Xcall Tryd.prog (Value.func (Fn.func 10) #[] #[]) #[r18.1, x1] r18.2).bind fun r19 =>
    (Qext r19.1 0).bind fun v20 =>
    (Qext r19.1 1).bind fun v21 =>
    (Xalloc Tryd.prog 27 r19.2).bind fun r22 =>
    (Xstore Tryd.prog 27 r22.1 v20 r22.2).bind fun r23 =>
    (XbuildSlice Tryd.prog 22 2 #[(0, (Value.int .u8 13)), (1, (Value.int .u8 10))] r23.2).bind fun r24 =>
    (Xconv Tryd.prog 22 22 r24.1 r24.2).bind fun r25 =>
    (Xbi Tryd.prog Go.Builtin.append #[22, 22] 22 #[r25.1, x0] r25.2).bind fun r26 =>
    (Xcall Tryd.prog (Value.func (Fn.func 10) #[] #[]) #[r26.1, x1] r26.2).bind fun r27 =>
    (Qext r27.1 0).bind fun v28 =>
    (Qext r27.1 1).bind fun v29 =>
    (Xalloc Tryd.prog 27 r27.2).bind fun r30 =>
    (Xstore Tryd.prog 27 r30.1 v28 r30.2).bind fun r31 =>
    (XbuildSlice Tryd.prog 22 1 #[(0, (Value.int .u8 32))] r31.2).bind fun r32 =>
    (Xconv Tryd.prog 22 22 r32.1 r32.2).bind fun r33 =>
    (Xbi Tryd.prog Go.Builtin.append #[22, 22] 22 #[r33.1, x0] r33.2).bind fun r34 =>
    (Xcall Tryd.prog (Value.func (Fn.func 10) #[] #[]) #[r34.1, x1] r34.2).bind fun r35 =>
    (Qext r35.1 0).bind fun v36 =>
    (Qext r35.1 1).bind fun v37 =>
    (Xalloc Tryd.prog 27 r35.2).bind fun r38 =>
    (Xstore Tryd.prog 27 r38.1 v36 r38.2).bind fun r39 =>
    (Qun .not x1).bind fun v40 =>
    (Xcall Tryd.prog (Value.func (Fn.func 10) #[] #[]) #[x0, v40] r39.2).bind fun r41 =>
    (Qext r41.1 0).bind fun v42 =>
    (Qext r41.1 1).bind fun v43 =>
    (Xalloc Tryd.prog 27 r41.2).bind fun r44 =>
    (Xstore Tryd.prog 27 r44.1 v42 r44.2).bind fun r45 =>
    (Xcall Tryd.prog (Value.func (Fn.func 12) #[] #[]) #[] r45.2).bind fun r46 =>
    (guardQ r46.1 true (Qun .not (gv (isB r46.1 true) v13))).bind fun v47 =>
    (Qpick r46.1 v47 (Value.bool false)).bind fun v48 =>
    (guardQ v48 true (Qun .not (gv (isB v48 true) v21))).bind fun v49 =>
    (Qpick v48 v49 (Value.bool false)).bind fun v50 =>
    (guardQ v50 true (Qun .not (gv (isB v50 true) v29))).bind fun v51 =>
    (Qpick v50 v51 (Value.bool false)).bind fun v52 =>
    (guardQ v52 true (Qun .not (gv (isB v52 true) v37))).bind fun v53 =>
    (Qpick v52 v53 (Value.bool false)).bind fun v54 =>
    (guardQ v54 true (Qun .not (gv (isB v54 true) v43))).bind fun v55 =>
    (Qpick v54 v55 (Value.bool false)).bind fun v56 =>
    (guardQ v56 true (Qlen Tryd.prog #[22] 3 #[(gv (isB v56 true) x0)] r46.2)).bind fun v57 =>
    (guardQ v56 true (Qbin Tryd.prog .leq 3 v57 (Value.int .i64 128))).bind fun v58 =>
    (Qpick v56 v58 (Value.bool false)).bind fun v59 =>
    some (v59, r46.2)
  )
theorem s4eq (x0 x1 : Value) (w : World) : evK Tryd.prog 4 none (bodyOf Tryd.f4) none _ { tmps := (([x0, x1] : List Value) ++ List.replicate (97 - 2) undef).toArray, defers := [] } w (leaveK Tryd.prog Tryd.f4) = s4 x0 x1 w := by kernel_rfl
set_option maxRecDepth 100000 in
theorem c4 {x0 x1 : Value} {w : World} {r : Value × World} (h : s4 x0 x1 w = some r) : C Tryd.prog 4 #[x0, x1] w = some r :=
  C_ev follows_all drawLaw (by kernel_rfl) Tryd.func4 (by rfl) ((s4eq x0 x1 w).trans h)
theorem e4 {x0 x1 : Value} {w : World} {Q : Value × World → Prop} (h : Brings (s4 x0 x1 w) Q) : Brings (Xcall Tryd.prog (Value.func (Fn.func 4) #[] #[]) #[x0, x1] w) Q :=
  h.call (Xcall_fn Tryd.func4 (by decide +kernel) (by rfl) _ _ _ w) fun _ h => c4 h

/-! lychgate/lychgatelaw13.FtpWhole -/
noncomputable def s5 (x0 x1 : Value) (w : World) : Option (Value × World) :=
  (Qbin Tryd.prog .eql 25 x1 (Value.int .u16 0)).bind fun v60 =>
  condK v60 (
    (Xcall Tryd.prog (Value.func (Fn.func 13) #[] #[]) #[(Value.int .i64 1), x0, x1] w).bind fun r61 =>
    (Xconv Tryd.prog 22 9 r61.1 r61.2).bind fun r62 =>
    (Qbin Tryd.prog .add 9 (Value.string { data := #[80, 79, 82, 84, 32] }) r62.1).bind fun v63 =>
    (Qbin Tryd.prog .add 9 v63 (Value.string { data := #[13, 10] })).bind fun v64 =>
    (Xconv Tryd.prog 9 22 v64 r62.2).bind fun r65 =>
    (Xcall Tryd.prog (Value.func (Fn.func 10) #[] #[]) #[r65.1, (Value.bool false)] r65.2).bind fun r66 =>
    (Qext r66.1 0).bind fun v67 =>
    (Qext r66.1 1).bind fun v68 =>
    (Xalloc Tryd.prog 27 r66.2).bind fun r69 =>
    (Xstore Tryd.prog 27 r69.1 v67 r69.2).bind fun r70 =>
    (Xcall Tryd.prog (Value.func (Fn.func 12) #[] #[]) #[] r70.2).bind fun r71 =>
    (guardQ r71.1 true (Qun .not (gv (isB r71.1 true) v68))).bind fun v72 =>
    (Qpick r71.1 v72 (Value.bool false)).bind fun v73 =>
    some (v73, r71.2)
  ) (
    (Xcall Tryd.prog (Value.func (Fn.func 13) #[] #[]) #[(Value.int .i64 1), x0, x1] w).bind fun r74 =>
    (Xconv Tryd.prog 22 9 r74.1 r74.2).bind fun r75 =>
    (Qbin Tryd.prog .add 9 (Value.string { data := #[80, 79, 82, 84, 32] }) r75.1).bind fun v76 =>
    (Qbin Tryd.prog .add 9 v76 (Value.string { data := #[13, 10] })).bind fun v77 =>
    (Xconv Tryd.prog 9 22 v77 r75.2).bind fun r78 =>
    (Xcall Tryd.prog (Value.func (Fn.func 10) #[] #[]) #[r78.1, (Value.bool false)] r78.2).bind fun r79 =>
    (Qext r79.1 0).bind fun v80 =>
    (Qext r79.1 1).bind fun v81 =>
    (Xalloc Tryd.prog 27 r79.2).bind fun r82 =>
    (Xstore Tryd.prog 27 r82.1 v80 r82.2).bind fun r83 =>
    (Xcall Tryd.prog (Value.func (Fn.func 13) #[] #[]) #[(Value.int .i64 2), x0, x1] r83.2).bind fun r84 =>
    (Xconv Tryd.prog 22 9 r84.1 r84.2).bind fun r85 =>
    (Qbin Tryd.prog .add 9 (Value.string { data := #[69, 80, 82, 84, 32] }) r85.1).bind fun v86 =>
    (Qbin Tryd.prog .add 9 v86 (Value.string { data := #[13, 10] })).bind fun v87 =>
    (Xconv Tryd.prog 9 22 v87 r85.2).bind fun r88 =>
    (Xcall Tryd.prog (Value.func (Fn.func 10) #[] #[]) #[r88.1, (Value.bool false)] r88.2).bind fun r89 =>
    (Qext r89.1 0).bind fun v90 =>
    (Qext r89.1 1).bind fun v91 =>
    (Xalloc Tryd.prog 27 r89.2).bind fun r92 =>
    (Xstore Tryd.prog 27 r92.1 v90 r92.2).bind fun r93 =>
    (Xcall Tryd.prog (Value.func (Fn.func 13) #[] #[]) #[(Value.int .i64 3), x0, x1] r93.2).bind fun r94 =>
    (Xconv Tryd.prog 22 9 r94.1 r94.2).bind fun r95 =>
    (Qbin Tryd.prog .add 9 (Value.string { data := #[50, 50, 55, 32, 97, 32, 40] }) r95.1).bind fun v96 =>
    (Qbin Tryd.prog .add 9 v96 (Value.string { data := #[41, 46, 13, 10] })).bind fun v97 =>
    (Xconv Tryd.prog 9 22 v97 r95.2).bind fun r98 =>
    (Xcall Tryd.prog (Value.func (Fn.func 10) #[] #[]) #[r98.1, (Value.bool true)] r98.2).bind fun r99 =>
    (Qext r99.1 0).bind fun v100 =>
    (Qext r99.1 1).bind fun v101 =>
    (Xalloc Tryd.prog 27 r99.2).bind fun r102 =>
    (Xstore Tryd.prog 27 r102.1 v100 r102.2).bind fun r103 =>
    (Xcall Tryd.prog (Value.func (Fn.func 13) #[] #[]) #[(Value.int .i64 4), x0, x1] r103.2).bind fun r104 =>
    (Xconv Tryd.prog 22 9 r104.1 r104.2).bind fun r105 =>
    (Qbin Tryd.prog .add 9 (Value.string { data := #[50, 50, 57, 32, 97, 32, 40, 124, 124, 124] }) r105.1).bind fun v106 =>
    (Qbin Tryd.prog .add 9 v106 (Value.string { data := #[124, 41, 13, 10] })).bind fun v107 =>
    (Xconv Tryd.prog 9 22 v107 r105.2).bind fun r108 =>
    (Xcall Tryd.prog (Value.func (Fn.func 10) #[] #[]) #[r108.1, (Value.bool true)] r108.2).bind fun r109 =>
    (Qext r109.1 0).bind fun v110 =>
    (Qext r109.1 1).bind fun v111 =>
    (Xalloc Tryd.prog 27 r109.2).bind fun r112 =>
    (Xstore Tryd.prog 27 r112.1 v110 r112.2).bind fun r113 =>
    (Xcall Tryd.prog (Value.func (Fn.func 12) #[] #[]) #[] r113.2).bind fun r114 =>
    (Qpick r114.1 (gv (isB r114.1 true) v81) (Value.bool false)).bind fun v115 =>
    (Qpick v115 (gv (isB v115 true) v91) (Value.bool false)).bind fun v116 =>
    (Qpick v116 (gv (isB v116 true) v101) (Value.bool false)).bind fun v117 =>
    (Qpick v117 (gv (isB v117 true) v111) (Value.bool false)).bind fun v118 =>
    (guardQ v118 true (QfieldAddr Tryd.prog 27 r82.1 0)).bind fun v119 =>
    (guardQ v118 true (Qload Tryd.prog 23 v119 r114.2)).bind fun v120 =>
    (guardQ v118 true (Qbin Tryd.prog .eql 23 v120 (Value.int .i64 1))).bind fun v121 =>
    (Qpick v118 v121 (Value.bool false)).bind fun v122 =>
    (guardQ v122 true (QfieldAddr Tryd.prog 27 r82.1 3)).bind fun v123 =>
    (guardQ v122 true (Qload Tryd.prog 24 v123 r114.2)).bind fun v124 =>
    (guardQ v122 true (Qbin Tryd.prog .eql 24 v124 (gv (isB v122 true) x0))).bind fun v125 =>
    (Qpick v122 v125 (Value.bool false)).bind fun v126 =>
    (guardQ v126 true (QfieldAddr Tryd.prog 27 r82.1 4)).bind fun v127 =>
    (guardQ v126 true (Qload Tryd.prog 25 v127 r114.2)).bind fun v128 =>
    (guardQ v126 true (Qbin Tryd.prog .eql 25 v128 (gv (isB v126 true) x1))).bind fun v129 =>
    (Qpick v126 v129 (Value.bool false)).bind fun v130 =>
    (guardQ v130 true (QfieldAddr Tryd.prog 27 r92.1 0)).bind fun v131 =>
    (guardQ v130 true (Qload Tryd.prog 23 v131 r114.2)).bind fun v132 =>
    (guardQ v130 true (Qbin Tryd.prog .eql 23 v132 (Value.int .i64 2))).bind fun v133 =>
    (Qpick v130 v133 (Value.bool false)).bind fun v134 =>
    (guardQ v134 true (QfieldAddr Tryd.prog 27 r92.1 3)).bind fun v135 =>
    (guardQ v134 true (Qload Tryd.prog 24 v135 r114.2)).bind fun v136 =>
    (guardQ v134 true (Qbin Tryd.prog .eql 24 v136 (gv (isB v134 true) x0))).bind fun v137 =>
    (Qpick v134 v137 (Value.bool false)).bind fun v138 =>
    (guardQ v138 true (QfieldAddr Tryd.prog 27 r92.1 4)).bind fun v139 =>
    (guardQ v138 true (Qload Tryd.prog 25 v139 r114.2)).bind fun v140 =>
    (guardQ v138 true (Qbin Tryd.prog .eql 25 v140 (gv (isB v138 true) x1))).bind fun v141 =>
    (Qpick v138 v141 (Value.bool false)).bind fun v142 =>
    (guardQ v142 true (QfieldAddr Tryd.prog 27 r102.1 0)).bind fun v143 =>
    (guardQ v142 true (Qload Tryd.prog 23 v143 r114.2)).bind fun v144 =>
    (guardQ v142 true (Qbin Tryd.prog .eql 23 v144 (Value.int .i64 3))).bind fun v145 =>
    (Qpick v142 v145 (Value.bool false)).bind fun v146 =>
    (guardQ v146 true (QfieldAddr Tryd.prog 27 r102.1 3)).bind fun v147 =>
    (guardQ v146 true (Qload Tryd.prog 24 v147 r114.2)).bind fun v148 =>
    (guardQ v146 true (Qbin Tryd.prog .eql 24 v148 (gv (isB v146 true) x0))).bind fun v149 =>
    (Qpick v146 v149 (Value.bool false)).bind fun v150 =>
    (guardQ v150 true (QfieldAddr Tryd.prog 27 r102.1 4)).bind fun v151 =>
    (guardQ v150 true (Qload Tryd.prog 25 v151 r114.2)).bind fun v152 =>
    (guardQ v150 true (Qbin Tryd.prog .eql 25 v152 (gv (isB v150 true) x1))).bind fun v153 =>
    (Qpick v150 v153 (Value.bool false)).bind fun v154 =>
    (guardQ v154 true (QfieldAddr Tryd.prog 27 r112.1 0)).bind fun v155 =>
    (guardQ v154 true (Qload Tryd.prog 23 v155 r114.2)).bind fun v156 =>
    (guardQ v154 true (Qbin Tryd.prog .eql 23 v156 (Value.int .i64 4))).bind fun v157 =>
    (Qpick v154 v157 (Value.bool false)).bind fun v158 =>
    (guardQ v158 true (QfieldAddr Tryd.prog 27 r112.1 3)).bind fun v159 =>
    (guardQ v158 true (Qload Tryd.prog 24 v159 r114.2)).bind fun v160 =>
    (guardQ v158 true (Qbin Tryd.prog .eql 24 v160 (Value.int .u32 0))).bind fun v161 =>
    (Qpick v158 v161 (Value.bool false)).bind fun v162 =>
    (guardQ v162 true (QfieldAddr Tryd.prog 27 r112.1 4)).bind fun v163 =>
    (guardQ v162 true (Qload Tryd.prog 25 v163 r114.2)).bind fun v164 =>
    (guardQ v162 true (Qbin Tryd.prog .eql 25 v164 (gv (isB v162 true) x1))).bind fun v165 =>
    (Qpick v162 v165 (Value.bool false)).bind fun v166 =>
    some (v166, r114.2)
  )
theorem s5eq (x0 x1 : Value) (w : World) : evK Tryd.prog 5 none (bodyOf Tryd.f5) none _ { tmps := (([x0, x1] : List Value) ++ List.replicate (157 - 2) undef).toArray, defers := [] } w (leaveK Tryd.prog Tryd.f5) = s5 x0 x1 w := by kernel_rfl
set_option maxRecDepth 100000 in
theorem c5 {x0 x1 : Value} {w : World} {r : Value × World} (h : s5 x0 x1 w = some r) : C Tryd.prog 5 #[x0, x1] w = some r :=
  C_ev follows_all drawLaw (by kernel_rfl) Tryd.func5 (by rfl) ((s5eq x0 x1 w).trans h)
theorem e5 {x0 x1 : Value} {w : World} {Q : Value × World → Prop} (h : Brings (s5 x0 x1 w) Q) : Brings (Xcall Tryd.prog (Value.func (Fn.func 5) #[] #[]) #[x0, x1] w) Q :=
  h.call (Xcall_fn Tryd.func5 (by decide +kernel) (by rfl) _ _ _ w) fun _ h => c5 h

/-! lychgate/lychgatelaw13.FtpBack -/
noncomputable def s7K0 : Exit → Act → World → Option (Value × World) := seqK (fun a w => evK Tryd.prog 7 none (nav [1, 1, 1, 1, 1, 1, 1, 1, 1] (bodyOf Tryd.f7)) none _ a w (leaveK Tryd.prog Tryd.f7)) (leaveK Tryd.prog Tryd.f7)
noncomputable def s7J0 (s : List Value) (d : List Deferred) (w : World) : Option (Value × World) := s7K0 .normal ⟨s.toArray, d⟩ w
noncomputable def s7M0 (s0 s8 s9 s11 s12 s13 s14 : Value) (w : World) : Option (Value × World) :=
  (Xcall Tryd.prog (Value.func (Fn.func 12) #[] #[]) #[] w).bind fun r199 =>
  (Qpick r199.1 (gv (isB r199.1 true) s13) (Value.bool false)).bind fun v200 =>
  (guardQ v200 true (QfieldAddr Tryd.prog 27 s12 0)).bind fun v201 =>
  (guardQ v200 true (Qload Tryd.prog 23 v201 r199.2)).bind fun v202 =>
  (guardQ v200 true (QfieldAddr Tryd.prog 27 s9 0)).bind fun v203 =>
  (guardQ v200 true (Qload Tryd.prog 23 v203 r199.2)).bind fun v204 =>
  (guardQ v200 true (Qbin Tryd.prog .eql 23 v202 v204)).bind fun v205 =>
  (Qpick v200 v205 (Value.bool false)).bind fun v206 =>
  (guardQ v206 true (QfieldAddr Tryd.prog 27 s12 1)).bind fun v207 =>
  (guardQ v206 true (Qload Tryd.prog 3 v207 r199.2)).bind fun v208 =>
  (guardQ v206 true (QfieldAddr Tryd.prog 27 s9 1)).bind fun v209 =>
  (guardQ v206 true (Qload Tryd.prog 3 v209 r199.2)).bind fun v210 =>
  (guardQ v206 true (Qbin Tryd.prog .eql 3 v208 v210)).bind fun v211 =>
  (Qpick v206 v211 (Value.bool false)).bind fun v212 =>
  (guardQ v212 true (QfieldAddr Tryd.prog 27 s12 3)).bind fun v213 =>
  (guardQ v212 true (Qload Tryd.prog 24 v213 r199.2)).bind fun v214 =>
  (guardQ v212 true (Qbin Tryd.prog .eql 24 v214 (gv (isB v212 true) s14))).bind fun v215 =>
  (Qpick v212 v215 (Value.bool false)).bind fun v216 =>
  (guardQ v216 true (QfieldAddr Tryd.prog 27 s12 4)).bind fun v217 =>
  (guardQ v216 true (Qload Tryd.prog 25 v217 r199.2)).bind fun v218 =>
  (guardQ v216 true (Qbin Tryd.prog .eql 25 v218 (gv (isB v216 true) s8))).bind fun v219 =>
  (Qpick v216 v219 (Value.bool false)).bind fun v220 =>
  (guardQ v220 true (QfieldAddr Tryd.prog 27 s12 2)).bind fun v221 =>
  (guardQ v220 true (Qload Tryd.prog 3 v221 r199.2)).bind fun v222 =>
  (guardQ v220 true (QfieldAddr Tryd.prog 27 s12 1)).bind fun v223 =>
  (guardQ v220 true (Qload Tryd.prog 3 v223 r199.2)).bind fun v224 =>
  (guardQ v220 true (Qbin Tryd.prog .sub 3 v222 v224)).bind fun v225 =>
  (guardQ v220 true (Qlen Tryd.prog #[22] 3 #[(gv (isB v220 true) s11)] r199.2)).bind fun v226 =>
  (guardQ v220 true (Qlen Tryd.prog #[22] 3 #[(gv (isB v220 true) s0)] r199.2)).bind fun v227 =>
  (guardQ v220 true (Qbin Tryd.prog .sub 3 v226 v227)).bind fun v228 =>
  (guardQ v220 true (QfieldAddr Tryd.prog 27 s9 2)).bind fun v229 =>
  (guardQ v220 true (Qload Tryd.prog 3 v229 r199.2)).bind fun v230 =>
  (guardQ v220 true (Qbin Tryd.prog .add 3 v228 v230)).bind fun v231 =>
  (guardQ v220 true (QfieldAddr Tryd.prog 27 s9 1)).bind fun v232 =>
  (guardQ v220 true (Qload Tryd.prog 3 v232 r199.2)).bind fun v233 =>
  (guardQ v220 true (Qbin Tryd.prog .sub 3 v231 v233)).bind fun v234 =>
  (guardQ v220 true (Qbin Tryd.prog .eql 3 v225 v234)).bind fun v235 =>
  (Qpick v220 v235 (Value.bool false)).bind fun v236 =>
  some (v236, r199.2)
noncomputable def s7raw (x0 x1 x2 : Value) (w : World) : Option (Value × World) :=
  (Xbox Tryd.prog 42 x2 w).bind fun r167 =>
  (QfieldAddr Tryd.prog 42 r167.1 0).bind fun v168 =>
  (Qload Tryd.prog 24 v168 r167.2.drew).bind fun v169 =>
  (QfieldAddr Tryd.prog 42 r167.1 1).bind fun v170 =>
  (Qload Tryd.prog 25 v170 r167.2.drew).bind fun v171 =>
  chkK True (
    (Xcall Tryd.prog (Value.func (Fn.func 10) #[] #[]) #[x0, x1] r167.2.drew).bind fun r172 =>
    (Qext r172.1 0).bind fun v173 =>
    (Qext r172.1 1).bind fun v174 =>
    (Xalloc Tryd.prog 27 r172.2).bind fun r175 =>
    (Xstore Tryd.prog 27 r175.1 v173 r175.2).bind fun r176 =>
    (Qun .not v174).bind fun v177 =>
    (guardQ v177 false (Qbin Tryd.prog .eql 25 (gv (isB v177 false) v171) (Value.int .u16 0))).bind fun v178 =>
    (Qpick v177 (Value.bool true) v178).bind fun v179 =>
    condK v179 (
      (Xcall Tryd.prog (Value.func (Fn.func 12) #[] #[]) #[] r176.2).bind fun r180 =>
      some (r180.1, r180.2)
    ) (
      (Qload Tryd.prog 27 r175.1 r176.2.drew).bind fun v181 =>
      (QfieldAddr Tryd.prog 27 r175.1 0).bind fun v182 =>
      (Qload Tryd.prog 23 v182 r176.2.drew).bind fun v183 =>
      (Xcall Tryd.prog (Value.func (Fn.func 13) #[] #[]) #[v183, v169, v171] r176.2.drew).bind fun r184 =>
      (Xcall Tryd.prog (Value.func (Fn.func 14) #[] #[]) #[x0, v181, r184.1] r184.2).bind fun r185 =>
      chkK ((Qload Tryd.prog 27 r175.1 r176.2.drew = some v181 ∧ Qload Tryd.prog 27 r175.1 r184.2 = some v181) ∧ True) (
        (Xcall Tryd.prog (Value.func (Fn.func 10) #[] #[]) #[r185.1, x1] r185.2).bind fun r186 =>
        (Qext r186.1 0).bind fun v187 =>
        (Qext r186.1 1).bind fun v188 =>
        (Xalloc Tryd.prog 27 r186.2).bind fun r189 =>
        (Xstore Tryd.prog 27 r189.1 v187 r189.2).bind fun r190 =>
        (Qlen Tryd.prog #[22] 3 #[r185.1] r190.2).bind fun v191 =>
        (Qbin Tryd.prog .gtr 3 v191 (Value.int .i64 128)).bind fun v192 =>
        condK v192 (
          (Xcall Tryd.prog (Value.func (Fn.func 12) #[] #[]) #[] r190.2).bind fun r193 =>
          (guardQ r193.1 true (Qun .not (gv (isB r193.1 true) v188))).bind fun v194 =>
          (Qpick r193.1 v194 (Value.bool false)).bind fun v195 =>
          some (v195, r193.2)
        ) (
          (QfieldAddr Tryd.prog 27 r175.1 0).bind fun v196 =>
          (Qload Tryd.prog 23 v196 r190.2).bind fun v197 =>
          (Qbin Tryd.prog .eql 23 v197 (Value.int .i64 4)).bind fun v198 =>
          condK v198 (
            s7J0 [x0, x1, x2, undef, undef, r167.1, (Value.bool false), v169, v171, r175.1, v174, r185.1, r189.1, v188, (Value.int .u32 0), v168, v169, v170, v171, r172.1, x0, x1, r172.1, v173, v174, v174, v177, v177, (gv (isB v177 false) v171), v178, v179, undef, x0, v181, v182, v183, v169, v171, r184.1, r185.1, r186.1, r185.1, x1, r186.1, v187, v188, r185.1, v191, v192, undef, undef, undef, undef, undef, v169, v196, v197, v198, undef, undef, undef, undef, undef, undef, undef, undef, undef, undef, undef, undef, undef, undef, undef, undef, undef, undef, undef, undef, undef, undef, undef, undef, undef, undef, undef, undef, undef, undef, undef, undef, undef, undef, undef, undef, undef, undef, undef, undef, undef, undef, undef, undef, undef, undef, undef, undef, undef] [] r190.2
          ) (
            s7J0 [x0, x1, x2, undef, undef, r167.1, (Value.bool false), v169, v171, r175.1, v174, r185.1, r189.1, v188, v169, v168, v169, v170, v171, r172.1, x0, x1, r172.1, v173, v174, v174, v177, v177, (gv (isB v177 false) v171), v178, v179, undef, x0, v181, v182, v183, v169, v171, r184.1, r185.1, r186.1, r185.1, x1, r186.1, v187, v188, r185.1, v191, v192, undef, undef, undef, undef, undef, v169, v196, v197, v198, undef, undef, undef, undef, undef, undef, undef, undef, undef, undef, undef, undef, undef, undef, undef, undef, undef, undef, undef, undef, undef, undef, undef, undef, undef, undef, undef, undef, undef, undef, undef, undef, undef, undef, undef, undef, undef, undef, undef, undef, undef, undef, undef, undef, undef, undef, undef, undef, undef] [] r190.2
          )
        )
      )
    )
  )
noncomputable def s7 (x0 x1 x2 : Value) (w : World) : Option (Value × World) :=
  (Xbox Tryd.prog 42 x2 w).bind fun r167 =>
  (QfieldAddr Tryd.prog 42 r167.1 0).bind fun v168 =>
  (Qload Tryd.prog 24 v168 r167.2.drew).bind fun v169 =>
  (QfieldAddr Tryd.prog 42 r167.1 1).bind fun v170 =>
  (Qload Tryd.prog 25 v170 r167.2.drew).bind fun v171 =>
  chkK True (
    (Xcall Tryd.prog (Value.func (Fn.func 10) #[] #[]) #[x0, x1] r167.2.drew).bind fun r172 =>
    (Qext r172.1 0).bind fun v173 =>
    (Qext r172.1 1).bind fun v174 =>
    (Xalloc Tryd.prog 27 r172.2).bind fun r175 =>
    (Xstore Tryd.prog 27 r175.1 v173 r175.2).bind fun r176 =>
    (Qun .not v174).bind fun v177 =>
    (guardQ v177 false (Qbin Tryd.prog .eql 25 (gv (isB v177 false) v171) (Value.int .u16 0))).bind fun v178 =>
    (Qpick v177 (Value.bool true) v178).bind fun v179 =>
    condK v179 (
      (Xcall Tryd.prog (Value.func (Fn.func 12) #[] #[]) #[] r176.2).bind fun r180 =>
      some (r180.1, r180.2)
    ) (
      (Qload Tryd.prog 27 r175.1 r176.2.drew).bind fun v181 =>
      (QfieldAddr Tryd.prog 27 r175.1 0).bind fun v182 =>
      (Qload Tryd.prog 23 v182 r176.2.drew).bind fun v183 =>
      (Xcall Tryd.prog (Value.func (Fn.func 13) #[] #[]) #[v183, v169, v171] r176.2.drew).bind fun r184 =>
      (Xcall Tryd.prog (Value.func (Fn.func 14) #[] #[]) #[x0, v181, r184.1] r184.2).bind fun r185 =>
      chkK ((Qload Tryd.prog 27 r175.1 r176.2.drew = some v181 ∧ Qload Tryd.prog 27 r175.1 r184.2 = some v181) ∧ True) (
        (Xcall Tryd.prog (Value.func (Fn.func 10) #[] #[]) #[r185.1, x1] r185.2).bind fun r186 =>
        (Qext r186.1 0).bind fun v187 =>
        (Qext r186.1 1).bind fun v188 =>
        (Xalloc Tryd.prog 27 r186.2).bind fun r189 =>
        (Xstore Tryd.prog 27 r189.1 v187 r189.2).bind fun r190 =>
        (Qlen Tryd.prog #[22] 3 #[r185.1] r190.2).bind fun v191 =>
        (Qbin Tryd.prog .gtr 3 v191 (Value.int .i64 128)).bind fun v192 =>
        condK v192 (
          (Xcall Tryd.prog (Value.func (Fn.func 12) #[] #[]) #[] r190.2).bind fun r193 =>
          (guardQ r193.1 true (Qun .not (gv (isB r193.1 true) v188))).bind fun v194 =>
          (Qpick r193.1 v194 (Value.bool false)).bind fun v195 =>
          some (v195, r193.2)
        ) (
          (QfieldAddr Tryd.prog 27 r175.1 0).bind fun v196 =>
          (Qload Tryd.prog 23 v196 r190.2).bind fun v197 =>
          (Qbin Tryd.prog .eql 23 v197 (Value.int .i64 4)).bind fun v198 =>
          condK v198 (
            s7M0 x0 v171 r175.1 r185.1 r189.1 v188 (Value.int .u32 0) r190.2
          ) (
            s7M0 x0 v171 r175.1 r185.1 r189.1 v188 v169 r190.2
          )
        )
      )
    )
  )
set_option maxRecDepth 100000 in
theorem s7J0eq {aA aB aC aD aE aF aG aH aI aJ aK aL aM aN aO aP aQ aR aS aT aU aV aW aX aY aZ bA bB bC bD bE bF bG bH bI bJ bK bL bM bN bO bP bQ bR bS bT bU bV bW bX bY bZ cA cB cC cD cE cF cG cH cI cJ cK cL cM cN cO cP cQ cR cS cT cU cV cW cX cY cZ dA dB dC dD dE dF dG dH dI dJ dK dL dM dN dO dP dQ dR dS dT dU dV dW dX dY dZ eA eB eC : Value} (w : World) : s7J0 [aA,aB,aC,aD,aE,aF,aG,aH,aI,aJ,aK,aL,aM,aN,aO,aP,aQ,aR,aS,aT,aU,aV,aW,aX,aY,aZ,bA,bB,bC,bD,bE,bF,bG,bH,bI,bJ,bK,bL,bM,bN,bO,bP,bQ,bR,bS,bT,bU,bV,bW,bX,bY,bZ,cA,cB,cC,cD,cE,cF,cG,cH,cI,cJ,cK,cL,cM,cN,cO,cP,cQ,cR,cS,cT,cU,cV,cW,cX,cY,cZ,dA,dB,dC,dD,dE,dF,dG,dH,dI,dJ,dK,dL,dM,dN,dO,dP,dQ,dR,dS,dT,dU,dV,dW,dX,dY,dZ,eA,eB,eC] [] w = s7M0 aA aI aJ aL aM aN aO w := (show _ = evK Tryd.prog 7 none (nav [1, 1, 1, 1, 1, 1, 1, 1, 1] (bodyOf Tryd.f7)) none _ ⟨[aA,aB,aC,aD,aE,aF,aG,aH,aI,aJ,aK,aL,aM,aN,aO,aP,aQ,aR,aS,aT,aU,aV,aW,aX,aY,aZ,bA,bB,bC,bD,bE,bF,bG,bH,bI,bJ,bK,bL,bM,bN,bO,bP,bQ,bR,bS,bT,bU,bV,bW,bX,bY,bZ,cA,cB,cC,cD,cE,cF,cG,cH,cI,cJ,cK,cL,cM,cN,cO,cP,cQ,cR,cS,cT,cU,cV,cW,cX,cY,cZ,dA,dB,dC,dD,dE,dF,dG,dH,dI,dJ,dK,dL,dM,dN,dO,dP,dQ,dR,dS,dT,dU,dV,dW,dX,dY,dZ,eA,eB,eC].toArray, []⟩ w (leaveK Tryd.prog Tryd.f7) from by kernel_rfl).trans (by kernel_rfl)
set_option maxRecDepth 100000 in
theorem s7J0of {aA aB aC aD aE aF aG aH aI aJ aK aL aM aN aO aP aQ aR aS aT aU aV aW aX aY aZ bA bB bC bD bE bF bG bH bI bJ bK bL bM bN bO bP bQ bR bS bT bU bV bW bX bY bZ cA cB cC cD cE cF cG cH cI cJ cK cL cM cN cO cP cQ cR cS cT cU cV cW cX cY cZ dA dB dC dD dE dF dG dH dI dJ dK dL dM dN dO dP dQ dR dS dT dU dV dW dX dY dZ eA eB eC : Value} {w : World} {r : _} (h : s7M0 aA aI aJ aL aM aN aO w = some r) : s7J0 [aA,aB,aC,aD,aE,aF,aG,aH,aI,aJ,aK,aL,aM,aN,aO,aP,aQ,aR,aS,aT,aU,aV,aW,aX,aY,aZ,bA,bB,bC,bD,bE,bF,bG,bH,bI,bJ,bK,bL,bM,bN,bO,bP,bQ,bR,bS,bT,bU,bV,bW,bX,bY,bZ,cA,cB,cC,cD,cE,cF,cG,cH,cI,cJ,cK,cL,cM,cN,cO,cP,cQ,cR,cS,cT,cU,cV,cW,cX,cY,cZ,dA,dB,dC,dD,dE,dF,dG,dH,dI,dJ,dK,dL,dM,dN,dO,dP,dQ,dR,dS,dT,dU,dV,dW,dX,dY,dZ,eA,eB,eC] [] w = some r :=
  ((s7J0eq w).trans h)
theorem s7eq (x0 x1 x2 : Value) (w : World) : evK Tryd.prog 7 none (bodyOf Tryd.f7) none _ { tmps := (([x0, x1, x2] : List Value) ++ List.replicate (107 - 3) undef).toArray, defers := [] } w (leaveK Tryd.prog Tryd.f7) = s7raw x0 x1 x2 w := by kernel_rfl
set_option maxRecDepth 100000 in
theorem c7 {x0 x1 x2 : Value} {w : World} {r : Value × World} (h : s7 x0 x1 x2 w = some r) : C Tryd.prog 7 #[x0, x1, x2] w = some r :=
  C_ev follows_all drawLaw (by kernel_rfl) Tryd.func7 (by rfl) ((s7eq x0 x1 x2 w).trans (show s7raw x0 x1 x2 w = some r from (Ev.bind_mono fun (r167 : Value × World) => (Ev.bind_mono fun (v168 : Value) => (Ev.bind_mono fun (v169 : Value) => (Ev.bind_mono fun (v170 : Value) => (Ev.bind_mono fun (v171 : Value) => (chkK_mono (Ev.bind_mono fun (r172 : Value × World) => (Ev.bind_mono fun (v173 : Value) => (Ev.bind_mono fun (v174 : Value) => (Ev.bind_mono fun (r175 : Value × World) => (Ev.bind_mono fun (r176 : Value × World) => (Ev.bind_mono fun (v177 : Value) => (Ev.bind_mono fun (v178 : Value) => (Ev.bind_mono fun (v179 : Value) => (condK_mono id (Ev.bind_mono fun (v181 : Value) => (Ev.bind_mono fun (v182 : Value) => (Ev.bind_mono fun (v183 : Value) => (Ev.bind_mono fun (r184 : Value × World) => (Ev.bind_mono fun (r185 : Value × World) => (chkK_mono (Ev.bind_mono fun (r186 : Value × World) => (Ev.bind_mono fun (v187 : Value) => (Ev.bind_mono fun (v188 : Value) => (Ev.bind_mono fun (r189 : Value × World) => (Ev.bind_mono fun (r190 : Value × World) => (Ev.bind_mono fun (v191 : Value) => (Ev.bind_mono fun (v192 : Value) => (condK_mono id (Ev.bind_mono fun (v196 : Value) => (Ev.bind_mono fun (v197 : Value) => (Ev.bind_mono fun (v198 : Value) => (condK_mono (s7J0of) (s7J0of)))))))))))))))))))))))))))))))))) h))
theorem e7 {x0 x1 x2 : Value} {w : World} {Q : Value × World → Prop} (h : Brings (s7 x0 x1 x2 w) Q) : Brings (Xcall Tryd.prog (Value.func (Fn.func 7) #[] #[]) #[x0, x1, x2] w) Q :=
  h.call (Xcall_fn Tryd.func7 (by decide +kernel) (by rfl) _ _ _ w) fun _ h => c7 h

/-! lychgate/lychgatelaw13.FtpSelf -/
noncomputable def s8 (x0 x1 : Value) (w : World) : Option (Value × World) :=
  (Xcall Tryd.prog (Value.func (Fn.func 10) #[] #[]) #[x0, x1] w).bind fun r237 =>
  (Qext r237.1 0).bind fun v238 =>
  (Qext r237.1 1).bind fun v239 =>
  (Xalloc Tryd.prog 27 r237.2).bind fun r240 =>
  (Xstore Tryd.prog 27 r240.1 v238 r240.2).bind fun r241 =>
  (Qun .not v239).bind fun v242 =>
  condK v242 (
    (Xcall Tryd.prog (Value.func (Fn.func 12) #[] #[]) #[] r241.2).bind fun r243 =>
    (guardQ r243.1 true (Qload Tryd.prog 27 r240.1 r243.2)).bind fun v244 =>
    (guardQ r243.1 true (Qbuild Tryd.prog 27 #[] r243.2)).bind fun v245 =>
    (guardQ r243.1 true (Qbin Tryd.prog .eql 27 v244 v245)).bind fun v246 =>
    (Qpick r243.1 v246 (Value.bool false)).bind fun v247 =>
    some (v247, r243.2)
  ) (
    (Qload Tryd.prog 27 r240.1 r241.2.drew).bind fun v248 =>
    (QfieldAddr Tryd.prog 27 r240.1 1).bind fun v249 =>
    (Qload Tryd.prog 3 v249 r241.2.drew).bind fun v250 =>
    (QfieldAddr Tryd.prog 27 r240.1 2).bind fun v251 =>
    (Qload Tryd.prog 3 v251 r241.2.drew).bind fun v252 =>
    (Qslice Tryd.prog 22 x0 (some v250) (some v252) none r241.2.drew).bind fun v253 =>
    (Xcall Tryd.prog (Value.func (Fn.func 14) #[] #[]) #[x0, v248, v253] r241.2.drew).bind fun r254 =>
    chkK True (
      (Qload Tryd.prog 27 r240.1 r254.2.drew).bind fun v255 =>
      (QfieldAddr Tryd.prog 27 r240.1 0).bind fun v256 =>
      (Qload Tryd.prog 23 v256 r254.2.drew).bind fun v257 =>
      (QfieldAddr Tryd.prog 27 r240.1 3).bind fun v258 =>
      (Qload Tryd.prog 24 v258 r254.2.drew).bind fun v259 =>
      (QfieldAddr Tryd.prog 27 r240.1 4).bind fun v260 =>
      (Qload Tryd.prog 25 v260 r254.2.drew).bind fun v261 =>
      (Xcall Tryd.prog (Value.func (Fn.func 13) #[] #[]) #[v257, v259, v261] r254.2.drew).bind fun r262 =>
      (Xcall Tryd.prog (Value.func (Fn.func 14) #[] #[]) #[x0, v255, r262.1] r262.2).bind fun r263 =>
      chkK ((Qload Tryd.prog 27 r240.1 r254.2.drew = some v255 ∧ Qload Tryd.prog 27 r240.1 r262.2 = some v255) ∧ True) (
        (Xcall Tryd.prog (Value.func (Fn.func 12) #[] #[]) #[] r263.2).bind fun r264 =>
        (guardX r264.1 true r264.2 (Xconv Tryd.prog 22 9 (gv (isB r264.1 true) r254.1) r264.2)).bind fun r265 =>
        (guardX r264.1 true r265.2 (Xconv Tryd.prog 22 9 (gv (isB r264.1 true) x0) r265.2)).bind fun r266 =>
        (guardQ r264.1 true (Qbin Tryd.prog .eql 9 r265.1 r266.1)).bind fun v267 =>
        (Qpick r264.1 v267 (Value.bool false)).bind fun v268 =>
        (guardX v268 true r266.2 (Xconv Tryd.prog 22 9 (gv (isB v268 true) r263.1) r266.2)).bind fun r269 =>
        (guardX v268 true r269.2 (Xconv Tryd.prog 22 9 (gv (isB v268 true) x0) r269.2)).bind fun r270 =>
        (guardQ v268 true (Qbin Tryd.prog .eql 9 r269.1 r270.1)).bind fun v271 =>
        (Qpick v268 v271 (Value.bool false)).bind fun v272 =>
        (guardQ v272 true (QfieldAddr Tryd.prog 27 r240.1 4)).bind fun v273 =>
        (guardQ v272 true (Qload Tryd.prog 25 v273 r270.2)).bind fun v274 =>
        (guardQ v272 true (Qbin Tryd.prog .gtr 25 v274 (Value.int .u16 0))).bind fun v275 =>
        (Qpick v272 v275 (Value.bool false)).bind fun v276 =>
        some (v276, r270.2)
      )
    )
  )
theorem s8eq (x0 x1 : Value) (w : World) : evK Tryd.prog 8 none (bodyOf Tryd.f8) none _ { tmps := (([x0, x1] : List Value) ++ List.replicate (62 - 2) undef).toArray, defers := [] } w (leaveK Tryd.prog Tryd.f8) = s8 x0 x1 w := by kernel_rfl
set_option maxRecDepth 100000 in
theorem c8 {x0 x1 : Value} {w : World} {r : Value × World} (h : s8 x0 x1 w = some r) : C Tryd.prog 8 #[x0, x1] w = some r :=
  C_ev follows_all drawLaw (by kernel_rfl) Tryd.func8 (by rfl) ((s8eq x0 x1 w).trans h)
theorem e8 {x0 x1 : Value} {w : World} {Q : Value × World → Prop} (h : Brings (s8 x0 x1 w) Q) : Brings (Xcall Tryd.prog (Value.func (Fn.func 8) #[] #[]) #[x0, x1] w) Q :=
  h.call (Xcall_fn Tryd.func8 (by decide +kernel) (by rfl) _ _ _ w) fun _ h => c8 h

end Go.Proofs.YtphokckbcmiddaaDoor
