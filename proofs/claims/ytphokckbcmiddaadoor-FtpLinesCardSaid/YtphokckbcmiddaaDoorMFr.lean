/- The functions of the program, by their texts. -/
import Derived.Test.YtphokckbcmiddaaDoorMFv
/- The functions of the program, by their texts. -/
namespace Go.Proofs.YtphokckbcmiddaaDoor
open Go Go.Ev
open Go.Proofs
/-! lychgate/lychgatelaw13.live -/
noncomputable def s12 (w : World) : Option (Value × World) :=
  (XbuildSlice Tryd.prog 22 19 #[(0, (Value.int .u8 80)), (1, (Value.int .u8 79)), (2, (Value.int .u8 82)), (3, (Value.int .u8 84)), (4, (Value.int .u8 32)), (5, (Value.int .u8 49)), (6, (Value.int .u8 48)), (7, (Value.int .u8 44)), (8, (Value.int .u8 48)), (9, (Value.int .u8 44)), (10, (Value.int .u8 48)), (11, (Value.int .u8 44)), (12, (Value.int .u8 50)), (13, (Value.int .u8 44)), (14, (Value.int .u8 52)), (15, (Value.int .u8 44)), (16, (Value.int .u8 49)), (17, (Value.int .u8 13)), (18, (Value.int .u8 10))] w).bind fun r1 =>
  (Xconv Tryd.prog 22 22 r1.1 r1.2).bind fun r2 =>
  (Xcall Tryd.prog (Value.func (Fn.func 10) #[] #[]) #[r2.1, (Value.bool false)] r2.2).bind fun r3 =>
  (Qext r3.1 0).bind fun v4 =>
  (Qext r3.1 1).bind fun v5 =>
  (Xalloc Tryd.prog 27 r3.2).bind fun r6 =>
  (Xstore Tryd.prog 27 r6.1 v4 r6.2).bind fun r7 =>
  (guardQ v5 true (Qload Tryd.prog 27 r6.1 r7.2)).bind fun v8 =>
  (guardQ v5 true (Qbuild Tryd.prog 27 #[(0, (Value.int .i64 1)), (1, (Value.int .i64 5)), (2, (Value.int .i64 17)), (3, (Value.int .u32 167772162)), (4, (Value.int .u16 1025))] r7.2)).bind fun v9 =>
  (guardQ v5 true (Qbin Tryd.prog .eql 27 v8 v9)).bind fun v10 =>
  (Qpick v5 v10 (Value.bool false)).bind fun v11 =>
  (guardX v11 true r7.2 (Xcall Tryd.prog (Value.func (Fn.func 13) #[] #[]) #[(Value.int .i64 4), (Value.int .u32 0), (Value.int .u16 7)] r7.2)).bind fun r12 =>
  (guardX v11 true r12.2 (Xconv Tryd.prog 22 9 r12.1 r12.2)).bind fun r13 =>
  (guardQ v11 true (Qbin Tryd.prog .eql 9 r13.1 (Value.string { data := #[55] }))).bind fun v14 =>
  (Qpick v11 v14 (Value.bool false)).bind fun v15 =>
  some (v15, r13.2)
theorem s12eq (w : World) : evK Tryd.prog 12 none (bodyOf Tryd.f12) none _ { tmps := (([] : List Value) ++ List.replicate (20 - 0) undef).toArray, defers := [] } w (leaveK Tryd.prog Tryd.f12) = s12  w := by kernel_rfl
theorem c12 {w : World} {r : Value × World} (h : s12  w = some r) : C Tryd.prog 12 #[] w = some r :=
  C_ev follows_all drawLaw (by kernel_rfl) Tryd.func12 (by rfl) ((s12eq  w).trans h)
theorem e12 {w : World} {Q : Value × World → Prop} (h : Brings (s12  w) Q) : Brings (Xcall Tryd.prog (Value.func (Fn.func 12) #[] #[]) #[] w) Q :=
  h.call (Xcall_fn Tryd.func12 (by decide +kernel) (by rfl) _ _ _ w) fun _ h => c12 h

/-! lychgate/lychgatelaw13.FtpLines -/
noncomputable def s4 (x0 x1 : Value) (w : World) : Option (Value × World) :=
  (Xcall Tryd.prog (Value.func (Fn.func 10) #[] #[]) #[x0, x1] w).bind fun r16 =>
  (Qext r16.1 0).bind fun v17 =>
  (Qext r16.1 1).bind fun v18 =>
  (Xalloc Tryd.prog 27 r16.2).bind fun r19 =>
  (Xstore Tryd.prog 27 r19.1 v17 r19.2).bind fun r20 =>
  (Qun .not v18).bind fun v21 =>
  condK v21 (
    (Xcall Tryd.prog (Value.func (Fn.func 12) #[] #[]) #[] r20.2).bind fun r22 =>
    some (r22.1, r22.2)
  ) (
    (Qlen Tryd.prog #[22] 3 #[x0] r20.2).bind fun v23 =>
    (Qbin Tryd.prog .sub 3 v23 (Value.int .i64 1)).bind fun v24 =>
    (Qslice Tryd.prog 22 x0 none (some v24) none r20.2).bind fun v25 =>
    (Xcall Tryd.prog (Value.func (Fn.func 10) #[] #[]) #[v25, x1] r20.2).bind fun r26 =>
    (Qext r26.1 0).bind fun v27 =>
    (Qext r26.1 1).bind fun v28 =>
    (Xalloc Tryd.prog 27 r26.2).bind fun r29 =>
    (Xstore Tryd.prog 27 r29.1 v27 r29.2).bind fun r30 =>
    (XbuildSlice Tryd.prog 22 0 #[] r30.2).bind fun r31 =>
    (Xbi Tryd.prog Go.Builtin.append #[22, 22] 22 #[r31.1, x0] r31.2).bind fun r32 =>
    (Xbi Tryd.prog Go.Builtin.append #[22, 22] 22 #[r32.1, x0] r32.2).bind fun r33 =>
    (Xcall Tryd.prog (Value.func (Fn.func 10) #[] #[]) #[r33.1, x1] r33.2).bind fun r34 =>
    (Qext r34.1 0).bind fun v35 =>
    (Qext r34.1 1).bind fun v36 =>
    (Xalloc Tryd.prog 27 r34.2).bind fun r37 =>
    (Xstore Tryd.prog 27 r37.1 v35 r37.2).bind fun r38 =>
    (XbuildSlice Tryd.prog 22 2 #[(0, (Value.int .u8 13)), (1, (Value.int .u8 10))] r38.2).bind fun r39 =>
    (Xconv Tryd.prog 22 22 r39.1 r39.2).bind fun r40 =>
    (Xbi Tryd.prog Go.Builtin.append #[22, 22] 22 #[r40.1, x0] r40.2).bind fun r41 =>
    (Xcall Tryd.prog (Value.func (Fn.func 10) #[] #[]) #[r41.1, x1] r41.2).bind fun r42 =>
    (Qext r42.1 0).bind fun v43 =>
    (Qext r42.1 1).bind fun v44 =>
    (Xalloc Tryd.prog 27 r42.2).bind fun r45 =>
    (Xstore Tryd.prog 27 r45.1 v43 r45.2).bind fun r46 =>
    (XbuildSlice Tryd.prog 22 1 #[(0, (Value.int .u8 32))] r46.2).bind fun r47 =>
    (Xconv Tryd.prog 22 22 r47.1 r47.2).bind fun r48 =>
    (Xbi Tryd.prog Go.Builtin.append #[22, 22] 22 #[r48.1, x0] r48.2).bind fun r49 =>
    (Xcall Tryd.prog (Value.func (Fn.func 10) #[] #[]) #[r49.1, x1] r49.2).bind fun r50 =>
    (Qext r50.1 0).bind fun v51 =>
    (Qext r50.1 1).bind fun v52 =>
    (Xalloc Tryd.prog 27 r50.2).bind fun r53 =>
    (Xstore Tryd.prog 27 r53.1 v51 r53.2).bind fun r54 =>
    (Qun .not x1).bind fun v55 =>
    (Xcall Tryd.prog (Value.func (Fn.func 10) #[] #[]) #[x0, v55] r54.2).bind fun r56 =>
    (Qext r56.1 0).bind fun v57 =>
    (Qext r56.1 1).bind fun v58 =>
    (Xalloc Tryd.prog 27 r56.2).bind fun r59 =>
    (Xstore Tryd.prog 27 r59.1 v57 r59.2).bind fun r60 =>
    (Xcall Tryd.prog (Value.func (Fn.func 12) #[] #[]) #[] r60.2).bind fun r61 =>
    (guardQ r61.1 true (Qun .not (gv (isB r61.1 true) v28))).bind fun v62 =>
    (Qpick r61.1 v62 (Value.bool false)).bind fun v63 =>
    (guardQ v63 true (Qun .not (gv (isB v63 true) v36))).bind fun v64 =>
    (Qpick v63 v64 (Value.bool false)).bind fun v65 =>
    (guardQ v65 true (Qun .not (gv (isB v65 true) v44))).bind fun v66 =>
    (Qpick v65 v66 (Value.bool false)).bind fun v67 =>
    (guardQ v67 true (Qun .not (gv (isB v67 true) v52))).bind fun v68 =>
    (Qpick v67 v68 (Value.bool false)).bind fun v69 =>
    (guardQ v69 true (Qun .not (gv (isB v69 true) v58))).bind fun v70 =>
    (Qpick v69 v70 (Value.bool false)).bind fun v71 =>
    (guardQ v71 true (Qlen Tryd.prog #[22] 3 #[(gv (isB v71 true) x0)] r61.2)).bind fun v72 =>
    (guardQ v71 true (Qbin Tryd.prog .leq 3 v72 (Value.int .i64 128))).bind fun v73 =>
    (Qpick v71 v73 (Value.bool false)).bind fun v74 =>
    some (v74, r61.2)
  )
theorem s4eq (x0 x1 : Value) (w : World) : evK Tryd.prog 4 none (bodyOf Tryd.f4) none _ { tmps := (([x0, x1] : List Value) ++ List.replicate (97 - 2) undef).toArray, defers := [] } w (leaveK Tryd.prog Tryd.f4) = s4 x0 x1 w := by kernel_rfl
set_option maxRecDepth 100000 in
theorem c4 {x0 x1 : Value} {w : World} {r : Value × World} (h : s4 x0 x1 w = some r) : C Tryd.prog 4 #[x0, x1] w = some r :=
  C_ev follows_all drawLaw (by kernel_rfl) Tryd.func4 (by rfl) ((s4eq x0 x1 w).trans h)
theorem e4 {x0 x1 : Value} {w : World} {Q : Value × World → Prop} (h : Brings (s4 x0 x1 w) Q) : Brings (Xcall Tryd.prog (Value.func (Fn.func 4) #[] #[]) #[x0, x1] w) Q :=
  h.call (Xcall_fn Tryd.func4 (by decide +kernel) (by rfl) _ _ _ w) fun _ h => c4 h

/-! lychgate/lychgatelaw13.FtpWhole -/
noncomputable def s5 (x0 x1 : Value) (w : World) : Option (Value × World) :=
  (Qbin Tryd.prog .eql 25 x1 (Value.int .u16 0)).bind fun v75 =>
  condK v75 (
    (Xcall Tryd.prog (Value.func (Fn.func 13) #[] #[]) #[(Value.int .i64 1), x0, x1] w).bind fun r76 =>
    (Xconv Tryd.prog 22 9 r76.1 r76.2).bind fun r77 =>
    (Qbin Tryd.prog .add 9 (Value.string { data := #[80, 79, 82, 84, 32] }) r77.1).bind fun v78 =>
    (Qbin Tryd.prog .add 9 v78 (Value.string { data := #[13, 10] })).bind fun v79 =>
    (Xconv Tryd.prog 9 22 v79 r77.2).bind fun r80 =>
    (Xcall Tryd.prog (Value.func (Fn.func 10) #[] #[]) #[r80.1, (Value.bool false)] r80.2).bind fun r81 =>
    (Qext r81.1 0).bind fun v82 =>
    (Qext r81.1 1).bind fun v83 =>
    (Xalloc Tryd.prog 27 r81.2).bind fun r84 =>
    (Xstore Tryd.prog 27 r84.1 v82 r84.2).bind fun r85 =>
    (Xcall Tryd.prog (Value.func (Fn.func 12) #[] #[]) #[] r85.2).bind fun r86 =>
    (guardQ r86.1 true (Qun .not (gv (isB r86.1 true) v83))).bind fun v87 =>
    (Qpick r86.1 v87 (Value.bool false)).bind fun v88 =>
    some (v88, r86.2)
  ) (
    (Xcall Tryd.prog (Value.func (Fn.func 13) #[] #[]) #[(Value.int .i64 1), x0, x1] w).bind fun r89 =>
    (Xconv Tryd.prog 22 9 r89.1 r89.2).bind fun r90 =>
    (Qbin Tryd.prog .add 9 (Value.string { data := #[80, 79, 82, 84, 32] }) r90.1).bind fun v91 =>
    (Qbin Tryd.prog .add 9 v91 (Value.string { data := #[13, 10] })).bind fun v92 =>
    (Xconv Tryd.prog 9 22 v92 r90.2).bind fun r93 =>
    (Xcall Tryd.prog (Value.func (Fn.func 10) #[] #[]) #[r93.1, (Value.bool false)] r93.2).bind fun r94 =>
    (Qext r94.1 0).bind fun v95 =>
    (Qext r94.1 1).bind fun v96 =>
    (Xalloc Tryd.prog 27 r94.2).bind fun r97 =>
    (Xstore Tryd.prog 27 r97.1 v95 r97.2).bind fun r98 =>
    (Xcall Tryd.prog (Value.func (Fn.func 13) #[] #[]) #[(Value.int .i64 2), x0, x1] r98.2).bind fun r99 =>
    (Xconv Tryd.prog 22 9 r99.1 r99.2).bind fun r100 =>
    (Qbin Tryd.prog .add 9 (Value.string { data := #[69, 80, 82, 84, 32] }) r100.1).bind fun v101 =>
    (Qbin Tryd.prog .add 9 v101 (Value.string { data := #[13, 10] })).bind fun v102 =>
    (Xconv Tryd.prog 9 22 v102 r100.2).bind fun r103 =>
    (Xcall Tryd.prog (Value.func (Fn.func 10) #[] #[]) #[r103.1, (Value.bool false)] r103.2).bind fun r104 =>
    (Qext r104.1 0).bind fun v105 =>
    (Qext r104.1 1).bind fun v106 =>
    (Xalloc Tryd.prog 27 r104.2).bind fun r107 =>
    (Xstore Tryd.prog 27 r107.1 v105 r107.2).bind fun r108 =>
    (Xcall Tryd.prog (Value.func (Fn.func 13) #[] #[]) #[(Value.int .i64 3), x0, x1] r108.2).bind fun r109 =>
    (Xconv Tryd.prog 22 9 r109.1 r109.2).bind fun r110 =>
    (Qbin Tryd.prog .add 9 (Value.string { data := #[50, 50, 55, 32, 97, 32, 40] }) r110.1).bind fun v111 =>
    (Qbin Tryd.prog .add 9 v111 (Value.string { data := #[41, 46, 13, 10] })).bind fun v112 =>
    (Xconv Tryd.prog 9 22 v112 r110.2).bind fun r113 =>
    (Xcall Tryd.prog (Value.func (Fn.func 10) #[] #[]) #[r113.1, (Value.bool true)] r113.2).bind fun r114 =>
    (Qext r114.1 0).bind fun v115 =>
    (Qext r114.1 1).bind fun v116 =>
    (Xalloc Tryd.prog 27 r114.2).bind fun r117 =>
    (Xstore Tryd.prog 27 r117.1 v115 r117.2).bind fun r118 =>
    (Xcall Tryd.prog (Value.func (Fn.func 13) #[] #[]) #[(Value.int .i64 4), x0, x1] r118.2).bind fun r119 =>
    (Xconv Tryd.prog 22 9 r119.1 r119.2).bind fun r120 =>
    (Qbin Tryd.prog .add 9 (Value.string { data := #[50, 50, 57, 32, 97, 32, 40, 124, 124, 124] }) r120.1).bind fun v121 =>
    (Qbin Tryd.prog .add 9 v121 (Value.string { data := #[124, 41, 13, 10] })).bind fun v122 =>
    (Xconv Tryd.prog 9 22 v122 r120.2).bind fun r123 =>
    (Xcall Tryd.prog (Value.func (Fn.func 10) #[] #[]) #[r123.1, (Value.bool true)] r123.2).bind fun r124 =>
    (Qext r124.1 0).bind fun v125 =>
    (Qext r124.1 1).bind fun v126 =>
    (Xalloc Tryd.prog 27 r124.2).bind fun r127 =>
    (Xstore Tryd.prog 27 r127.1 v125 r127.2).bind fun r128 =>
    (Xcall Tryd.prog (Value.func (Fn.func 12) #[] #[]) #[] r128.2).bind fun r129 =>
    (Qpick r129.1 (gv (isB r129.1 true) v96) (Value.bool false)).bind fun v130 =>
    (Qpick v130 (gv (isB v130 true) v106) (Value.bool false)).bind fun v131 =>
    (Qpick v131 (gv (isB v131 true) v116) (Value.bool false)).bind fun v132 =>
    (Qpick v132 (gv (isB v132 true) v126) (Value.bool false)).bind fun v133 =>
    (guardQ v133 true (QfieldAddr Tryd.prog 27 r97.1 0)).bind fun v134 =>
    (guardQ v133 true (Qload Tryd.prog 23 v134 r129.2)).bind fun v135 =>
    (guardQ v133 true (Qbin Tryd.prog .eql 23 v135 (Value.int .i64 1))).bind fun v136 =>
    (Qpick v133 v136 (Value.bool false)).bind fun v137 =>
    (guardQ v137 true (QfieldAddr Tryd.prog 27 r97.1 3)).bind fun v138 =>
    (guardQ v137 true (Qload Tryd.prog 24 v138 r129.2)).bind fun v139 =>
    (guardQ v137 true (Qbin Tryd.prog .eql 24 v139 (gv (isB v137 true) x0))).bind fun v140 =>
    (Qpick v137 v140 (Value.bool false)).bind fun v141 =>
    (guardQ v141 true (QfieldAddr Tryd.prog 27 r97.1 4)).bind fun v142 =>
    (guardQ v141 true (Qload Tryd.prog 25 v142 r129.2)).bind fun v143 =>
    (guardQ v141 true (Qbin Tryd.prog .eql 25 v143 (gv (isB v141 true) x1))).bind fun v144 =>
    (Qpick v141 v144 (Value.bool false)).bind fun v145 =>
    (guardQ v145 true (QfieldAddr Tryd.prog 27 r107.1 0)).bind fun v146 =>
    (guardQ v145 true (Qload Tryd.prog 23 v146 r129.2)).bind fun v147 =>
    (guardQ v145 true (Qbin Tryd.prog .eql 23 v147 (Value.int .i64 2))).bind fun v148 =>
    (Qpick v145 v148 (Value.bool false)).bind fun v149 =>
    (guardQ v149 true (QfieldAddr Tryd.prog 27 r107.1 3)).bind fun v150 =>
    (guardQ v149 true (Qload Tryd.prog 24 v150 r129.2)).bind fun v151 =>
    (guardQ v149 true (Qbin Tryd.prog .eql 24 v151 (gv (isB v149 true) x0))).bind fun v152 =>
    (Qpick v149 v152 (Value.bool false)).bind fun v153 =>
    (guardQ v153 true (QfieldAddr Tryd.prog 27 r107.1 4)).bind fun v154 =>
    (guardQ v153 true (Qload Tryd.prog 25 v154 r129.2)).bind fun v155 =>
    (guardQ v153 true (Qbin Tryd.prog .eql 25 v155 (gv (isB v153 true) x1))).bind fun v156 =>
    (Qpick v153 v156 (Value.bool false)).bind fun v157 =>
    (guardQ v157 true (QfieldAddr Tryd.prog 27 r117.1 0)).bind fun v158 =>
    (guardQ v157 true (Qload Tryd.prog 23 v158 r129.2)).bind fun v159 =>
    (guardQ v157 true (Qbin Tryd.prog .eql 23 v159 (Value.int .i64 3))).bind fun v160 =>
    (Qpick v157 v160 (Value.bool false)).bind fun v161 =>
    (guardQ v161 true (QfieldAddr Tryd.prog 27 r117.1 3)).bind fun v162 =>
    (guardQ v161 true (Qload Tryd.prog 24 v162 r129.2)).bind fun v163 =>
    (guardQ v161 true (Qbin Tryd.prog .eql 24 v163 (gv (isB v161 true) x0))).bind fun v164 =>
    (Qpick v161 v164 (Value.bool false)).bind fun v165 =>
    (guardQ v165 true (QfieldAddr Tryd.prog 27 r117.1 4)).bind fun v166 =>
    (guardQ v165 true (Qload Tryd.prog 25 v166 r129.2)).bind fun v167 =>
    (guardQ v165 true (Qbin Tryd.prog .eql 25 v167 (gv (isB v165 true) x1))).bind fun v168 =>
    (Qpick v165 v168 (Value.bool false)).bind fun v169 =>
    (guardQ v169 true (QfieldAddr Tryd.prog 27 r127.1 0)).bind fun v170 =>
    (guardQ v169 true (Qload Tryd.prog 23 v170 r129.2)).bind fun v171 =>
    (guardQ v169 true (Qbin Tryd.prog .eql 23 v171 (Value.int .i64 4))).bind fun v172 =>
    (Qpick v169 v172 (Value.bool false)).bind fun v173 =>
    (guardQ v173 true (QfieldAddr Tryd.prog 27 r127.1 3)).bind fun v174 =>
    (guardQ v173 true (Qload Tryd.prog 24 v174 r129.2)).bind fun v175 =>
    (guardQ v173 true (Qbin Tryd.prog .eql 24 v175 (Value.int .u32 0))).bind fun v176 =>
    (Qpick v173 v176 (Value.bool false)).bind fun v177 =>
    (guardQ v177 true (QfieldAddr Tryd.prog 27 r127.1 4)).bind fun v178 =>
    (guardQ v177 true (Qload Tryd.prog 25 v178 r129.2)).bind fun v179 =>
    (guardQ v177 true (Qbin Tryd.prog .eql 25 v179 (gv (isB v177 true) x1))).bind fun v180 =>
    (Qpick v177 v180 (Value.bool false)).bind fun v181 =>
    some (v181, r129.2)
  )
theorem s5eq (x0 x1 : Value) (w : World) : evK Tryd.prog 5 none (bodyOf Tryd.f5) none _ { tmps := (([x0, x1] : List Value) ++ List.replicate (157 - 2) undef).toArray, defers := [] } w (leaveK Tryd.prog Tryd.f5) = s5 x0 x1 w := by kernel_rfl
set_option maxRecDepth 100000 in
theorem c5 {x0 x1 : Value} {w : World} {r : Value × World} (h : s5 x0 x1 w = some r) : C Tryd.prog 5 #[x0, x1] w = some r :=
  C_ev follows_all drawLaw (by kernel_rfl) Tryd.func5 (by rfl) ((s5eq x0 x1 w).trans h)
theorem e5 {x0 x1 : Value} {w : World} {Q : Value × World → Prop} (h : Brings (s5 x0 x1 w) Q) : Brings (Xcall Tryd.prog (Value.func (Fn.func 5) #[] #[]) #[x0, x1] w) Q :=
  h.call (Xcall_fn Tryd.func5 (by decide +kernel) (by rfl) _ _ _ w) fun _ h => c5 h

/-! lychgate/lychgatelaw13.FtpBack -/
noncomputable def s7K0 : Exit → Act → World → Option (Value × World) := seqK (fun a w => evK Tryd.prog 7 none (nav [1, 1, 1, 1, 1, 1, 1, 1, 1] (bodyOf Tryd.f7)) none _ a w (leaveK Tryd.prog Tryd.f7)) (leaveK Tryd.prog Tryd.f7)
noncomputable def s7J0 (s : List Value) (d : List Deferred) (w : World) : Option (Value × World) := s7K0 .normal ⟨s.toArray, d⟩ w
noncomputable def s7M0 (s0 s8 s9 s11 s12 s13 s14 : Value) (w : World) : Option (Value × World) :=
  (Xcall Tryd.prog (Value.func (Fn.func 12) #[] #[]) #[] w).bind fun r214 =>
  (Qpick r214.1 (gv (isB r214.1 true) s13) (Value.bool false)).bind fun v215 =>
  (guardQ v215 true (QfieldAddr Tryd.prog 27 s12 0)).bind fun v216 =>
  (guardQ v215 true (Qload Tryd.prog 23 v216 r214.2)).bind fun v217 =>
  (guardQ v215 true (QfieldAddr Tryd.prog 27 s9 0)).bind fun v218 =>
  (guardQ v215 true (Qload Tryd.prog 23 v218 r214.2)).bind fun v219 =>
  (guardQ v215 true (Qbin Tryd.prog .eql 23 v217 v219)).bind fun v220 =>
  (Qpick v215 v220 (Value.bool false)).bind fun v221 =>
  (guardQ v221 true (QfieldAddr Tryd.prog 27 s12 1)).bind fun v222 =>
  (guardQ v221 true (Qload Tryd.prog 3 v222 r214.2)).bind fun v223 =>
  (guardQ v221 true (QfieldAddr Tryd.prog 27 s9 1)).bind fun v224 =>
  (guardQ v221 true (Qload Tryd.prog 3 v224 r214.2)).bind fun v225 =>
  (guardQ v221 true (Qbin Tryd.prog .eql 3 v223 v225)).bind fun v226 =>
  (Qpick v221 v226 (Value.bool false)).bind fun v227 =>
  (guardQ v227 true (QfieldAddr Tryd.prog 27 s12 3)).bind fun v228 =>
  (guardQ v227 true (Qload Tryd.prog 24 v228 r214.2)).bind fun v229 =>
  (guardQ v227 true (Qbin Tryd.prog .eql 24 v229 (gv (isB v227 true) s14))).bind fun v230 =>
  (Qpick v227 v230 (Value.bool false)).bind fun v231 =>
  (guardQ v231 true (QfieldAddr Tryd.prog 27 s12 4)).bind fun v232 =>
  (guardQ v231 true (Qload Tryd.prog 25 v232 r214.2)).bind fun v233 =>
  (guardQ v231 true (Qbin Tryd.prog .eql 25 v233 (gv (isB v231 true) s8))).bind fun v234 =>
  (Qpick v231 v234 (Value.bool false)).bind fun v235 =>
  (guardQ v235 true (QfieldAddr Tryd.prog 27 s12 2)).bind fun v236 =>
  (guardQ v235 true (Qload Tryd.prog 3 v236 r214.2)).bind fun v237 =>
  (guardQ v235 true (QfieldAddr Tryd.prog 27 s12 1)).bind fun v238 =>
  (guardQ v235 true (Qload Tryd.prog 3 v238 r214.2)).bind fun v239 =>
  (guardQ v235 true (Qbin Tryd.prog .sub 3 v237 v239)).bind fun v240 =>
  (guardQ v235 true (Qlen Tryd.prog #[22] 3 #[(gv (isB v235 true) s11)] r214.2)).bind fun v241 =>
  (guardQ v235 true (Qlen Tryd.prog #[22] 3 #[(gv (isB v235 true) s0)] r214.2)).bind fun v242 =>
  (guardQ v235 true (Qbin Tryd.prog .sub 3 v241 v242)).bind fun v243 =>
  (guardQ v235 true (QfieldAddr Tryd.prog 27 s9 2)).bind fun v244 =>
  (guardQ v235 true (Qload Tryd.prog 3 v244 r214.2)).bind fun v245 =>
  (guardQ v235 true (Qbin Tryd.prog .add 3 v243 v245)).bind fun v246 =>
  (guardQ v235 true (QfieldAddr Tryd.prog 27 s9 1)).bind fun v247 =>
  (guardQ v235 true (Qload Tryd.prog 3 v247 r214.2)).bind fun v248 =>
  (guardQ v235 true (Qbin Tryd.prog .sub 3 v246 v248)).bind fun v249 =>
  (guardQ v235 true (Qbin Tryd.prog .eql 3 v240 v249)).bind fun v250 =>
  (Qpick v235 v250 (Value.bool false)).bind fun v251 =>
  some (v251, r214.2)
noncomputable def s7raw (x0 x1 x2 : Value) (w : World) : Option (Value × World) :=
  (Xbox Tryd.prog 42 x2 w).bind fun r182 =>
  (QfieldAddr Tryd.prog 42 r182.1 0).bind fun v183 =>
  (Qload Tryd.prog 24 v183 r182.2.drew).bind fun v184 =>
  (QfieldAddr Tryd.prog 42 r182.1 1).bind fun v185 =>
  (Qload Tryd.prog 25 v185 r182.2.drew).bind fun v186 =>
  chkK True (
    (Xcall Tryd.prog (Value.func (Fn.func 10) #[] #[]) #[x0, x1] r182.2.drew).bind fun r187 =>
    (Qext r187.1 0).bind fun v188 =>
    (Qext r187.1 1).bind fun v189 =>
    (Xalloc Tryd.prog 27 r187.2).bind fun r190 =>
    (Xstore Tryd.prog 27 r190.1 v188 r190.2).bind fun r191 =>
    (Qun .not v189).bind fun v192 =>
    (guardQ v192 false (Qbin Tryd.prog .eql 25 (gv (isB v192 false) v186) (Value.int .u16 0))).bind fun v193 =>
    (Qpick v192 (Value.bool true) v193).bind fun v194 =>
    condK v194 (
      (Xcall Tryd.prog (Value.func (Fn.func 12) #[] #[]) #[] r191.2).bind fun r195 =>
      some (r195.1, r195.2)
    ) (
      (Qload Tryd.prog 27 r190.1 r191.2.drew).bind fun v196 =>
      (QfieldAddr Tryd.prog 27 r190.1 0).bind fun v197 =>
      (Qload Tryd.prog 23 v197 r191.2.drew).bind fun v198 =>
      (Xcall Tryd.prog (Value.func (Fn.func 13) #[] #[]) #[v198, v184, v186] r191.2.drew).bind fun r199 =>
      (Xcall Tryd.prog (Value.func (Fn.func 14) #[] #[]) #[x0, v196, r199.1] r199.2).bind fun r200 =>
      chkK ((Qload Tryd.prog 27 r190.1 r191.2.drew = some v196 ∧ Qload Tryd.prog 27 r190.1 r199.2 = some v196) ∧ True) (
        (Xcall Tryd.prog (Value.func (Fn.func 10) #[] #[]) #[r200.1, x1] r200.2).bind fun r201 =>
        (Qext r201.1 0).bind fun v202 =>
        (Qext r201.1 1).bind fun v203 =>
        (Xalloc Tryd.prog 27 r201.2).bind fun r204 =>
        (Xstore Tryd.prog 27 r204.1 v202 r204.2).bind fun r205 =>
        (Qlen Tryd.prog #[22] 3 #[r200.1] r205.2).bind fun v206 =>
        (Qbin Tryd.prog .gtr 3 v206 (Value.int .i64 128)).bind fun v207 =>
        condK v207 (
          (Xcall Tryd.prog (Value.func (Fn.func 12) #[] #[]) #[] r205.2).bind fun r208 =>
          (guardQ r208.1 true (Qun .not (gv (isB r208.1 true) v203))).bind fun v209 =>
          (Qpick r208.1 v209 (Value.bool false)).bind fun v210 =>
          some (v210, r208.2)
        ) (
          (QfieldAddr Tryd.prog 27 r190.1 0).bind fun v211 =>
          (Qload Tryd.prog 23 v211 r205.2).bind fun v212 =>
          (Qbin Tryd.prog .eql 23 v212 (Value.int .i64 4)).bind fun v213 =>
          condK v213 (
            s7J0 [x0, x1, x2, undef, undef, r182.1, (Value.bool false), v184, v186, r190.1, v189, r200.1, r204.1, v203, (Value.int .u32 0), v183, v184, v185, v186, r187.1, x0, x1, r187.1, v188, v189, v189, v192, v192, (gv (isB v192 false) v186), v193, v194, undef, x0, v196, v197, v198, v184, v186, r199.1, r200.1, r201.1, r200.1, x1, r201.1, v202, v203, r200.1, v206, v207, undef, undef, undef, undef, undef, v184, v211, v212, v213, undef, undef, undef, undef, undef, undef, undef, undef, undef, undef, undef, undef, undef, undef, undef, undef, undef, undef, undef, undef, undef, undef, undef, undef, undef, undef, undef, undef, undef, undef, undef, undef, undef, undef, undef, undef, undef, undef, undef, undef, undef, undef, undef, undef, undef, undef, undef, undef, undef] [] r205.2
          ) (
            s7J0 [x0, x1, x2, undef, undef, r182.1, (Value.bool false), v184, v186, r190.1, v189, r200.1, r204.1, v203, v184, v183, v184, v185, v186, r187.1, x0, x1, r187.1, v188, v189, v189, v192, v192, (gv (isB v192 false) v186), v193, v194, undef, x0, v196, v197, v198, v184, v186, r199.1, r200.1, r201.1, r200.1, x1, r201.1, v202, v203, r200.1, v206, v207, undef, undef, undef, undef, undef, v184, v211, v212, v213, undef, undef, undef, undef, undef, undef, undef, undef, undef, undef, undef, undef, undef, undef, undef, undef, undef, undef, undef, undef, undef, undef, undef, undef, undef, undef, undef, undef, undef, undef, undef, undef, undef, undef, undef, undef, undef, undef, undef, undef, undef, undef, undef, undef, undef, undef, undef, undef, undef] [] r205.2
          )
        )
      )
    )
  )
noncomputable def s7 (x0 x1 x2 : Value) (w : World) : Option (Value × World) :=
  (Xbox Tryd.prog 42 x2 w).bind fun r182 =>
  (QfieldAddr Tryd.prog 42 r182.1 0).bind fun v183 =>
  (Qload Tryd.prog 24 v183 r182.2.drew).bind fun v184 =>
  (QfieldAddr Tryd.prog 42 r182.1 1).bind fun v185 =>
  (Qload Tryd.prog 25 v185 r182.2.drew).bind fun v186 =>
  chkK True (
    (Xcall Tryd.prog (Value.func (Fn.func 10) #[] #[]) #[x0, x1] r182.2.drew).bind fun r187 =>
    (Qext r187.1 0).bind fun v188 =>
    (Qext r187.1 1).bind fun v189 =>
    (Xalloc Tryd.prog 27 r187.2).bind fun r190 =>
    (Xstore Tryd.prog 27 r190.1 v188 r190.2).bind fun r191 =>
    (Qun .not v189).bind fun v192 =>
    (guardQ v192 false (Qbin Tryd.prog .eql 25 (gv (isB v192 false) v186) (Value.int .u16 0))).bind fun v193 =>
    (Qpick v192 (Value.bool true) v193).bind fun v194 =>
    condK v194 (
      (Xcall Tryd.prog (Value.func (Fn.func 12) #[] #[]) #[] r191.2).bind fun r195 =>
      some (r195.1, r195.2)
    ) (
      (Qload Tryd.prog 27 r190.1 r191.2.drew).bind fun v196 =>
      (QfieldAddr Tryd.prog 27 r190.1 0).bind fun v197 =>
      (Qload Tryd.prog 23 v197 r191.2.drew).bind fun v198 =>
      (Xcall Tryd.prog (Value.func (Fn.func 13) #[] #[]) #[v198, v184, v186] r191.2.drew).bind fun r199 =>
      (Xcall Tryd.prog (Value.func (Fn.func 14) #[] #[]) #[x0, v196, r199.1] r199.2).bind fun r200 =>
      chkK ((Qload Tryd.prog 27 r190.1 r191.2.drew = some v196 ∧ Qload Tryd.prog 27 r190.1 r199.2 = some v196) ∧ True) (
        (Xcall Tryd.prog (Value.func (Fn.func 10) #[] #[]) #[r200.1, x1] r200.2).bind fun r201 =>
        (Qext r201.1 0).bind fun v202 =>
        (Qext r201.1 1).bind fun v203 =>
        (Xalloc Tryd.prog 27 r201.2).bind fun r204 =>
        (Xstore Tryd.prog 27 r204.1 v202 r204.2).bind fun r205 =>
        (Qlen Tryd.prog #[22] 3 #[r200.1] r205.2).bind fun v206 =>
        (Qbin Tryd.prog .gtr 3 v206 (Value.int .i64 128)).bind fun v207 =>
        condK v207 (
          (Xcall Tryd.prog (Value.func (Fn.func 12) #[] #[]) #[] r205.2).bind fun r208 =>
          (guardQ r208.1 true (Qun .not (gv (isB r208.1 true) v203))).bind fun v209 =>
          (Qpick r208.1 v209 (Value.bool false)).bind fun v210 =>
          some (v210, r208.2)
        ) (
          (QfieldAddr Tryd.prog 27 r190.1 0).bind fun v211 =>
          (Qload Tryd.prog 23 v211 r205.2).bind fun v212 =>
          (Qbin Tryd.prog .eql 23 v212 (Value.int .i64 4)).bind fun v213 =>
          condK v213 (
            s7M0 x0 v186 r190.1 r200.1 r204.1 v203 (Value.int .u32 0) r205.2
          ) (
            s7M0 x0 v186 r190.1 r200.1 r204.1 v203 v184 r205.2
          )
        )
      )
    )
  )
set_option maxRecDepth 100000 in
theorem s7J0eq (aA aB aC aD aE aF aG aH aI aJ aK aL aM aN aO aP aQ aR aS aT aU aV aW aX aY aZ bA bB bC bD bE bF bG bH bI bJ bK bL bM bN bO bP bQ bR bS bT bU bV bW bX bY bZ cA cB cC cD cE cF cG cH cI cJ cK cL cM cN cO cP cQ cR cS cT cU cV cW cX cY cZ dA dB dC dD dE dF dG dH dI dJ dK dL dM dN dO dP dQ dR dS dT dU dV dW dX dY dZ eA eB eC : Value) (w : World) : s7J0 [aA,aB,aC,aD,aE,aF,aG,aH,aI,aJ,aK,aL,aM,aN,aO,aP,aQ,aR,aS,aT,aU,aV,aW,aX,aY,aZ,bA,bB,bC,bD,bE,bF,bG,bH,bI,bJ,bK,bL,bM,bN,bO,bP,bQ,bR,bS,bT,bU,bV,bW,bX,bY,bZ,cA,cB,cC,cD,cE,cF,cG,cH,cI,cJ,cK,cL,cM,cN,cO,cP,cQ,cR,cS,cT,cU,cV,cW,cX,cY,cZ,dA,dB,dC,dD,dE,dF,dG,dH,dI,dJ,dK,dL,dM,dN,dO,dP,dQ,dR,dS,dT,dU,dV,dW,dX,dY,dZ,eA,eB,eC] [] w = s7M0 aA aI aJ aL aM aN aO w := (show s7J0 [aA,aB,aC,aD,aE,aF,aG,aH,aI,aJ,aK,aL,aM,aN,aO,aP,aQ,aR,aS,aT,aU,aV,aW,aX,aY,aZ,bA,bB,bC,bD,bE,bF,bG,bH,bI,bJ,bK,bL,bM,bN,bO,bP,bQ,bR,bS,bT,bU,bV,bW,bX,bY,bZ,cA,cB,cC,cD,cE,cF,cG,cH,cI,cJ,cK,cL,cM,cN,cO,cP,cQ,cR,cS,cT,cU,cV,cW,cX,cY,cZ,dA,dB,dC,dD,dE,dF,dG,dH,dI,dJ,dK,dL,dM,dN,dO,dP,dQ,dR,dS,dT,dU,dV,dW,dX,dY,dZ,eA,eB,eC] [] w = evK Tryd.prog 7 none (nav [1, 1, 1, 1, 1, 1, 1, 1, 1] (bodyOf Tryd.f7)) none _ ⟨[aA,aB,aC,aD,aE,aF,aG,aH,aI,aJ,aK,aL,aM,aN,aO,aP,aQ,aR,aS,aT,aU,aV,aW,aX,aY,aZ,bA,bB,bC,bD,bE,bF,bG,bH,bI,bJ,bK,bL,bM,bN,bO,bP,bQ,bR,bS,bT,bU,bV,bW,bX,bY,bZ,cA,cB,cC,cD,cE,cF,cG,cH,cI,cJ,cK,cL,cM,cN,cO,cP,cQ,cR,cS,cT,cU,cV,cW,cX,cY,cZ,dA,dB,dC,dD,dE,dF,dG,dH,dI,dJ,dK,dL,dM,dN,dO,dP,dQ,dR,dS,dT,dU,dV,dW,dX,dY,dZ,eA,eB,eC].toArray, []⟩ w (leaveK Tryd.prog Tryd.f7) from by kernel_rfl).trans (by kernel_rfl)
set_option maxRecDepth 100000 in
theorem s7J0of {aA aB aC aD aE aF aG aH aI aJ aK aL aM aN aO aP aQ aR aS aT aU aV aW aX aY aZ bA bB bC bD bE bF bG bH bI bJ bK bL bM bN bO bP bQ bR bS bT bU bV bW bX bY bZ cA cB cC cD cE cF cG cH cI cJ cK cL cM cN cO cP cQ cR cS cT cU cV cW cX cY cZ dA dB dC dD dE dF dG dH dI dJ dK dL dM dN dO dP dQ dR dS dT dU dV dW dX dY dZ eA eB eC : Value} {w : World} {r : _} (h : s7M0 aA aI aJ aL aM aN aO w = some r) : s7J0 [aA,aB,aC,aD,aE,aF,aG,aH,aI,aJ,aK,aL,aM,aN,aO,aP,aQ,aR,aS,aT,aU,aV,aW,aX,aY,aZ,bA,bB,bC,bD,bE,bF,bG,bH,bI,bJ,bK,bL,bM,bN,bO,bP,bQ,bR,bS,bT,bU,bV,bW,bX,bY,bZ,cA,cB,cC,cD,cE,cF,cG,cH,cI,cJ,cK,cL,cM,cN,cO,cP,cQ,cR,cS,cT,cU,cV,cW,cX,cY,cZ,dA,dB,dC,dD,dE,dF,dG,dH,dI,dJ,dK,dL,dM,dN,dO,dP,dQ,dR,dS,dT,dU,dV,dW,dX,dY,dZ,eA,eB,eC] [] w = some r :=
  ((s7J0eq aA aB aC aD aE aF aG aH aI aJ aK aL aM aN aO aP aQ aR aS aT aU aV aW aX aY aZ bA bB bC bD bE bF bG bH bI bJ bK bL bM bN bO bP bQ bR bS bT bU bV bW bX bY bZ cA cB cC cD cE cF cG cH cI cJ cK cL cM cN cO cP cQ cR cS cT cU cV cW cX cY cZ dA dB dC dD dE dF dG dH dI dJ dK dL dM dN dO dP dQ dR dS dT dU dV dW dX dY dZ eA eB eC w).trans h)
theorem s7eq (x0 x1 x2 : Value) (w : World) : evK Tryd.prog 7 none (bodyOf Tryd.f7) none _ { tmps := (([x0, x1, x2] : List Value) ++ List.replicate (107 - 3) undef).toArray, defers := [] } w (leaveK Tryd.prog Tryd.f7) = s7raw x0 x1 x2 w := by kernel_rfl
set_option maxRecDepth 100000 in
theorem c7 {x0 x1 x2 : Value} {w : World} {r : Value × World} (h : s7 x0 x1 x2 w = some r) : C Tryd.prog 7 #[x0, x1, x2] w = some r :=
  C_ev follows_all drawLaw (by kernel_rfl) Tryd.func7 (by rfl) ((s7eq x0 x1 x2 w).trans (show s7raw x0 x1 x2 w = some r from (Ev.bind_mono fun (r182 : Value × World) => (Ev.bind_mono fun (v183 : Value) => (Ev.bind_mono fun (v184 : Value) => (Ev.bind_mono fun (v185 : Value) => (Ev.bind_mono fun (v186 : Value) => (chkK_mono (Ev.bind_mono fun (r187 : Value × World) => (Ev.bind_mono fun (v188 : Value) => (Ev.bind_mono fun (v189 : Value) => (Ev.bind_mono fun (r190 : Value × World) => (Ev.bind_mono fun (r191 : Value × World) => (Ev.bind_mono fun (v192 : Value) => (Ev.bind_mono fun (v193 : Value) => (Ev.bind_mono fun (v194 : Value) => (condK_mono id (Ev.bind_mono fun (v196 : Value) => (Ev.bind_mono fun (v197 : Value) => (Ev.bind_mono fun (v198 : Value) => (Ev.bind_mono fun (r199 : Value × World) => (Ev.bind_mono fun (r200 : Value × World) => (chkK_mono (Ev.bind_mono fun (r201 : Value × World) => (Ev.bind_mono fun (v202 : Value) => (Ev.bind_mono fun (v203 : Value) => (Ev.bind_mono fun (r204 : Value × World) => (Ev.bind_mono fun (r205 : Value × World) => (Ev.bind_mono fun (v206 : Value) => (Ev.bind_mono fun (v207 : Value) => (condK_mono id (Ev.bind_mono fun (v211 : Value) => (Ev.bind_mono fun (v212 : Value) => (Ev.bind_mono fun (v213 : Value) => (condK_mono (s7J0of) (s7J0of)))))))))))))))))))))))))))))))))) h))
theorem e7 {x0 x1 x2 : Value} {w : World} {Q : Value × World → Prop} (h : Brings (s7 x0 x1 x2 w) Q) : Brings (Xcall Tryd.prog (Value.func (Fn.func 7) #[] #[]) #[x0, x1, x2] w) Q :=
  h.call (Xcall_fn Tryd.func7 (by decide +kernel) (by rfl) _ _ _ w) fun _ h => c7 h

/-! lychgate/lychgatelaw13.FtpSelf -/
noncomputable def s8 (x0 x1 : Value) (w : World) : Option (Value × World) :=
  (Xcall Tryd.prog (Value.func (Fn.func 10) #[] #[]) #[x0, x1] w).bind fun r252 =>
  (Qext r252.1 0).bind fun v253 =>
  (Qext r252.1 1).bind fun v254 =>
  (Xalloc Tryd.prog 27 r252.2).bind fun r255 =>
  (Xstore Tryd.prog 27 r255.1 v253 r255.2).bind fun r256 =>
  (Qun .not v254).bind fun v257 =>
  condK v257 (
    (Xcall Tryd.prog (Value.func (Fn.func 12) #[] #[]) #[] r256.2).bind fun r258 =>
    (guardQ r258.1 true (Qload Tryd.prog 27 r255.1 r258.2)).bind fun v259 =>
    (guardQ r258.1 true (Qbuild Tryd.prog 27 #[] r258.2)).bind fun v260 =>
    (guardQ r258.1 true (Qbin Tryd.prog .eql 27 v259 v260)).bind fun v261 =>
    (Qpick r258.1 v261 (Value.bool false)).bind fun v262 =>
    some (v262, r258.2)
  ) (
    (Qload Tryd.prog 27 r255.1 r256.2.drew).bind fun v263 =>
    (QfieldAddr Tryd.prog 27 r255.1 1).bind fun v264 =>
    (Qload Tryd.prog 3 v264 r256.2.drew).bind fun v265 =>
    (QfieldAddr Tryd.prog 27 r255.1 2).bind fun v266 =>
    (Qload Tryd.prog 3 v266 r256.2.drew).bind fun v267 =>
    (Qslice Tryd.prog 22 x0 (some v265) (some v267) none r256.2.drew).bind fun v268 =>
    (Xcall Tryd.prog (Value.func (Fn.func 14) #[] #[]) #[x0, v263, v268] r256.2.drew).bind fun r269 =>
    chkK True (
      (Qload Tryd.prog 27 r255.1 r269.2.drew).bind fun v270 =>
      (QfieldAddr Tryd.prog 27 r255.1 0).bind fun v271 =>
      (Qload Tryd.prog 23 v271 r269.2.drew).bind fun v272 =>
      (QfieldAddr Tryd.prog 27 r255.1 3).bind fun v273 =>
      (Qload Tryd.prog 24 v273 r269.2.drew).bind fun v274 =>
      (QfieldAddr Tryd.prog 27 r255.1 4).bind fun v275 =>
      (Qload Tryd.prog 25 v275 r269.2.drew).bind fun v276 =>
      (Xcall Tryd.prog (Value.func (Fn.func 13) #[] #[]) #[v272, v274, v276] r269.2.drew).bind fun r277 =>
      (Xcall Tryd.prog (Value.func (Fn.func 14) #[] #[]) #[x0, v270, r277.1] r277.2).bind fun r278 =>
      chkK ((Qload Tryd.prog 27 r255.1 r269.2.drew = some v270 ∧ Qload Tryd.prog 27 r255.1 r277.2 = some v270) ∧ True) (
        (Xcall Tryd.prog (Value.func (Fn.func 12) #[] #[]) #[] r278.2).bind fun r279 =>
        (guardX r279.1 true r279.2 (Xconv Tryd.prog 22 9 (gv (isB r279.1 true) r269.1) r279.2)).bind fun r280 =>
        (guardX r279.1 true r280.2 (Xconv Tryd.prog 22 9 (gv (isB r279.1 true) x0) r280.2)).bind fun r281 =>
        (guardQ r279.1 true (Qbin Tryd.prog .eql 9 r280.1 r281.1)).bind fun v282 =>
        (Qpick r279.1 v282 (Value.bool false)).bind fun v283 =>
        (guardX v283 true r281.2 (Xconv Tryd.prog 22 9 (gv (isB v283 true) r278.1) r281.2)).bind fun r284 =>
        (guardX v283 true r284.2 (Xconv Tryd.prog 22 9 (gv (isB v283 true) x0) r284.2)).bind fun r285 =>
        (guardQ v283 true (Qbin Tryd.prog .eql 9 r284.1 r285.1)).bind fun v286 =>
        (Qpick v283 v286 (Value.bool false)).bind fun v287 =>
        (guardQ v287 true (QfieldAddr Tryd.prog 27 r255.1 4)).bind fun v288 =>
        (guardQ v287 true (Qload Tryd.prog 25 v288 r285.2)).bind fun v289 =>
        (guardQ v287 true (Qbin Tryd.prog .gtr 25 v289 (Value.int .u16 0))).bind fun v290 =>
        (Qpick v287 v290 (Value.bool false)).bind fun v291 =>
        some (v291, r285.2)
      )
    )
  )
theorem s8eq (x0 x1 : Value) (w : World) : evK Tryd.prog 8 none (bodyOf Tryd.f8) none _ { tmps := (([x0, x1] : List Value) ++ List.replicate (62 - 2) undef).toArray, defers := [] } w (leaveK Tryd.prog Tryd.f8) = s8 x0 x1 w := by kernel_rfl
set_option maxRecDepth 100000 in
theorem c8 {x0 x1 : Value} {w : World} {r : Value × World} (h : s8 x0 x1 w = some r) : C Tryd.prog 8 #[x0, x1] w = some r :=
  C_ev follows_all drawLaw (by kernel_rfl) Tryd.func8 (by rfl) ((s8eq x0 x1 w).trans h)
theorem e8 {x0 x1 : Value} {w : World} {Q : Value × World → Prop} (h : Brings (s8 x0 x1 w) Q) : Brings (Xcall Tryd.prog (Value.func (Fn.func 8) #[] #[]) #[x0, x1] w) Q :=
  h.call (Xcall_fn Tryd.func8 (by decide +kernel) (by rfl) _ _ _ w) fun _ h => c8 h

end Go.Proofs.YtphokckbcmiddaaDoor
