/- The functions of the program, by their texts. -/
import Derived.Test.YtiioaklogbjhhaaFa
import Derived.Test.YtiioaklogbjhhaaProg
import Derived.KernelRfl
namespace Go.Proofs.Ytiioaklogbjhhaa
open Go Go.Ev
open Go.Proofs
theorem follows_all : Try.prog.follows .mixedOrders = true := by kernel_rfl
/-! lychgate/lychgatelaw09.RulesRight -/
noncomputable def s3 (x0 : Value) (w : World) : Option (Value × World) :=
  (Xbox Try.prog 26 x0 w).bind fun r1 =>
  (Xcall Try.prog (Value.func (Fn.func 11) #[] #[]) #[] r1.2).bind fun r2 =>
  (Qload Try.prog 26 r1.1 r2.2).bind fun v3 =>
  (Xcall Try.prog (Value.func (Fn.func 12) #[] #[]) #[r2.1, v3] r2.2).bind fun r4 =>
  (Qload Try.prog 26 r1.1 r4.2).bind fun v5 =>
  (Xcall Try.prog (Value.func (Fn.func 12) #[] #[]) #[r2.1, v5] r4.2).bind fun r6 =>
  (Qload Try.prog 26 r1.1 r6.2).bind fun v7 =>
  (Xcall Try.prog (Value.func (Fn.func 13) #[] #[]) #[v7] r6.2).bind fun r8 =>
  (Qun Go.UnOp.not r8.1).bind fun v9 =>
  condK v9 (
    (Xcall Try.prog (Value.func (Fn.func 14) #[] #[]) #[] r8.2).bind fun r10 =>
    (guardQ r10.1 true (Qload Try.prog 26 r1.1 r10.2)).bind fun v11 =>
    (guardX r10.1 true r10.2 (Xcall Try.prog (Value.func (Fn.func 15) #[] #[]) #[v11] r10.2)).bind fun r12 =>
    (guardQ r10.1 true (Qun Go.UnOp.not r12.1)).bind fun v13 =>
    (Qpick r10.1 v13 (Go.Value.bool false)).bind fun v14 =>
    (guardQ v14 true (Qbin Try.prog Go.BinOp.eql 29 (gv (isB v14 true) r4.1) (Go.Value.int Go.IntKind.i64 4))).bind fun v15 =>
    (Qpick v14 v15 (Go.Value.bool false)).bind fun v16 =>
    (guardQ v16 true (Qbin Try.prog Go.BinOp.eql 29 (gv (isB v16 true) r6.1) (Go.Value.int Go.IntKind.i64 4))).bind fun v17 =>
    (Qpick v16 v17 (Go.Value.bool false)).bind fun v18 =>
    (guardX v18 true r12.2 (Xcall Try.prog (Value.func (Fn.func 16) #[] #[]) #[(gv (isB v18 true) r2.1)] r12.2)).bind fun r19 =>
    (guardQ v18 true (Qlen Try.prog #[33] 3 #[r19.1] r19.2)).bind fun v20 =>
    (guardQ v18 true (Qbin Try.prog Go.BinOp.eql 3 v20 (Go.Value.int Go.IntKind.i64 0))).bind fun v21 =>
    (Qpick v18 v21 (Go.Value.bool false)).bind fun v22 =>
    some (v22, r19.2)
  ) (
    (Xcall Try.prog (Value.func (Fn.func 14) #[] #[]) #[] r8.2.drew).bind fun r23 =>
    (guardQ r23.1 true (Qload Try.prog 26 r1.1 r23.2)).bind fun v24 =>
    (guardX r23.1 true r23.2 (Xcall Try.prog (Value.func (Fn.func 15) #[] #[]) #[v24] r23.2)).bind fun r25 =>
    (Qpick r23.1 r25.1 (Go.Value.bool false)).bind fun v26 =>
    (guardQ v26 true (Qbin Try.prog Go.BinOp.eql 29 (gv (isB v26 true) r4.1) (Go.Value.int Go.IntKind.i64 0))).bind fun v27 =>
    (Qpick v26 v27 (Go.Value.bool false)).bind fun v28 =>
    (guardQ v28 true (Qbin Try.prog Go.BinOp.eql 29 (gv (isB v28 true) r6.1) (Go.Value.int Go.IntKind.i64 10))).bind fun v29 =>
    (Qpick v28 v29 (Go.Value.bool false)).bind fun v30 =>
    (guardX v30 true r25.2 (Xcall Try.prog (Value.func (Fn.func 16) #[] #[]) #[(gv (isB v30 true) r2.1)] r25.2)).bind fun r31 =>
    (guardQ v30 true (Qlen Try.prog #[33] 3 #[r31.1] r31.2)).bind fun v32 =>
    (guardQ v30 true (Qbin Try.prog Go.BinOp.eql 3 v32 (Go.Value.int Go.IntKind.i64 1))).bind fun v33 =>
    (Qpick v30 v33 (Go.Value.bool false)).bind fun v34 =>
    (guardX v34 true r31.2 (Xcall Try.prog (Value.func (Fn.func 16) #[] #[]) #[(gv (isB v34 true) r2.1)] r31.2)).bind fun r35 =>
    (guardQ v34 true (QindexAddr Try.prog 33 r35.1 (Go.Value.int Go.IntKind.i64 0) r35.2)).bind fun v36 =>
    (guardQ v34 true (Qload Try.prog 26 v36 r35.2)).bind fun v37 =>
    (guardQ v34 true (Qload Try.prog 26 r1.1 r35.2)).bind fun v38 =>
    (guardQ v34 true (Qbin Try.prog Go.BinOp.eql 26 v37 v38)).bind fun v39 =>
    (Qpick v34 v39 (Go.Value.bool false)).bind fun v40 =>
    chkK ((guardQ v34 true (Qload Try.prog 26 r1.1 r31.2) = some v38 ∧ guardQ v34 true (Qload Try.prog 26 r1.1 r35.2) = some v38) ∧ True) (
      some (v40, r35.2)
    )
  )
theorem s3eq (x0 : Value) (w : World) : evK Try.prog 3 none (bodyOf Try.f3) none _ { tmps := (([x0] : List Value) ++ List.replicate (63 - 1) undef).toArray, defers := [] } w (leaveK Try.prog Try.f3) = s3 x0 w := by kernel_rfl
theorem c3 {x0 : Value} {w : World} {r : Value × World} (h : s3 x0 w = some r) : C Try.prog 3 #[x0] w = some r :=
  C_ev follows_all drawLaw (by kernel_rfl) Try.func3 (by rfl) ((s3eq x0 w).trans h)
theorem e3 {x0 : Value} {w : World} {Q : Value × World → Prop} (h : Brings (s3 x0 w) Q) : Brings (Xcall Try.prog (Value.func (Fn.func 3) #[] #[]) #[x0] w) Q :=
  h.call (Xcall_fn Try.func3 (by decide +kernel) (by rfl) _ _ _ w) fun _ h => c3 h

/-! lychgate/lychgatelaw09.RulesFirst -/
noncomputable def s4 (x0 x1 x2 : Value) (w : World) : Option (Value × World) :=
  (Xbox Try.prog 37 x1 w).bind fun r41 =>
  (Xbox Try.prog 26 x2 r41.2).bind fun r42 =>
  (Xcall Try.prog (Value.func (Fn.func 17) #[] #[]) #[x0] r42.2).bind fun r43 =>
  (Qext r43.1 0).bind fun v44 =>
  (Qext r43.1 1).bind fun _ =>
  (Qext r43.1 2).bind fun v46 =>
  (Xcall Try.prog (Value.func (Fn.func 14) #[] #[]) #[] r43.2).bind fun r47 =>
  (Qun Go.UnOp.not r47.1).bind fun v48 =>
  (guardQ v48 false (Qun Go.UnOp.not (gv (isB v48 false) v46))).bind fun v49 =>
  (Qpick v48 (Go.Value.bool true) v49).bind fun v50 =>
  condK v50 (
    some ((Go.Value.bool false), r47.2)
  ) (
    (QfieldAddr Try.prog 37 r41.1 0).bind fun v51 =>
    (Qload Try.prog 23 v51 r47.2).bind fun v52 =>
    (Xcall Try.prog (Value.func (Fn.func 18) #[] #[]) #[v44, v52] r47.2).bind fun r53 =>
    (Qext r53.1 0).bind fun v54 =>
    (Qext r53.1 1).bind fun v55 =>
    (Xalloc Try.prog 26 r53.2).bind fun r56 =>
    (Xstore Try.prog 26 r56.1 v54 r56.2).bind fun r57 =>
    (QfieldAddr Try.prog 37 r41.1 1).bind fun v58 =>
    (Qload Try.prog 5 v58 r57.2).bind fun v59 =>
    (QfieldAddr Try.prog 37 r41.1 2).bind fun v60 =>
    (Qload Try.prog 23 v60 r57.2).bind fun v61 =>
    (QfieldAddr Try.prog 37 r41.1 3).bind fun v62 =>
    (Qload Try.prog 24 v62 r57.2).bind fun v63 =>
    (Xcall Try.prog (Value.func (Fn.func 19) #[] #[]) #[v44, v59, v61, v63] r57.2).bind fun r64 =>
    (Qext r64.1 0).bind fun v65 =>
    (Qext r64.1 1).bind fun v66 =>
    (Xalloc Try.prog 26 r64.2).bind fun r67 =>
    (Xstore Try.prog 26 r67.1 v65 r67.2).bind fun r68 =>
    (Qload Try.prog 26 r42.1 r68.2).bind fun v69 =>
    (Xcall Try.prog (Value.func (Fn.func 12) #[] #[]) #[v44, v69] r68.2).bind fun r70 =>
    (QfieldAddr Try.prog 37 r41.1 0).bind fun v71 =>
    (Qload Try.prog 23 v71 r70.2).bind fun v72 =>
    (Xcall Try.prog (Value.func (Fn.func 18) #[] #[]) #[v44, v72] r70.2).bind fun r73 =>
    (Qext r73.1 0).bind fun v74 =>
    (Qext r73.1 1).bind fun v75 =>
    (Xalloc Try.prog 26 r73.2).bind fun r76 =>
    (Xstore Try.prog 26 r76.1 v74 r76.2).bind fun r77 =>
    (QfieldAddr Try.prog 37 r41.1 1).bind fun v78 =>
    (Qload Try.prog 5 v78 r77.2).bind fun v79 =>
    (QfieldAddr Try.prog 37 r41.1 2).bind fun v80 =>
    (Qload Try.prog 23 v80 r77.2).bind fun v81 =>
    (QfieldAddr Try.prog 37 r41.1 3).bind fun v82 =>
    (Qload Try.prog 24 v82 r77.2).bind fun v83 =>
    (Xcall Try.prog (Value.func (Fn.func 19) #[] #[]) #[v44, v79, v81, v83] r77.2).bind fun r84 =>
    (Qext r84.1 0).bind fun v85 =>
    (Qext r84.1 1).bind fun v86 =>
    (Xalloc Try.prog 26 r84.2).bind fun r87 =>
    (Xstore Try.prog 26 r87.1 v85 r87.2).bind fun r88 =>
    (Qun Go.UnOp.not v55).bind fun v89 =>
    (guardQ (gv (isB v89 false) (gv (isB v89 false) v75)) true (Qload Try.prog 26 r76.1 r88.2)).bind fun v90 =>
    (guardQ (gv (isB v89 false) (gv (isB v89 false) v75)) true (Qload Try.prog 26 r56.1 r88.2)).bind fun v91 =>
    (guardQ (gv (isB v89 false) (gv (isB v89 false) v75)) true (Qbin Try.prog Go.BinOp.eql 26 v90 v91)).bind fun v92 =>
    (guardQ v89 false (Qpick (gv (isB v89 false) (gv (isB v89 false) v75)) v92 (Go.Value.bool false))).bind fun v93 =>
    (Qpick v89 (Go.Value.bool true) v93).bind fun v94 =>
    (guardQ v94 true (Qun Go.UnOp.not (gv (isB v94 true) v66))).bind fun v95 =>
    (guardQ (gv (isB (gv (isB v94 true) v95) false) (gv (isB (gv (isB v94 true) v95) false) v86)) true (Qload Try.prog 26 r87.1 r88.2)).bind fun v96 =>
    (guardQ (gv (isB (gv (isB v94 true) v95) false) (gv (isB (gv (isB v94 true) v95) false) v86)) true (Qload Try.prog 26 r67.1 r88.2)).bind fun v97 =>
    (guardQ (gv (isB (gv (isB v94 true) v95) false) (gv (isB (gv (isB v94 true) v95) false) v86)) true (Qbin Try.prog Go.BinOp.eql 26 v96 v97)).bind fun v98 =>
    (guardQ (gv (isB v94 true) v95) false (Qpick (gv (isB (gv (isB v94 true) v95) false) (gv (isB (gv (isB v94 true) v95) false) v86)) v98 (Go.Value.bool false))).bind fun v99 =>
    (guardQ v94 true (Qpick (gv (isB v94 true) v95) (Go.Value.bool true) v99)).bind fun v100 =>
    (Qpick v94 v100 (Go.Value.bool false)).bind fun v101 =>
    some (v101, r88.2)
  )
theorem s4eq (x0 x1 x2 : Value) (w : World) : evK Try.prog 4 none (bodyOf Try.f4) none _ { tmps := (([x0, x1, x2] : List Value) ++ List.replicate (91 - 3) undef).toArray, defers := [] } w (leaveK Try.prog Try.f4) = s4 x0 x1 x2 w := by kernel_rfl
theorem c4 {x0 x1 x2 : Value} {w : World} {r : Value × World} (h : s4 x0 x1 x2 w = some r) : C Try.prog 4 #[x0, x1, x2] w = some r :=
  C_ev follows_all drawLaw (by kernel_rfl) Try.func4 (by rfl) ((s4eq x0 x1 x2 w).trans h)
theorem e4 {x0 x1 x2 : Value} {w : World} {Q : Value × World → Prop} (h : Brings (s4 x0 x1 x2 w) Q) : Brings (Xcall Try.prog (Value.func (Fn.func 4) #[] #[]) #[x0, x1, x2] w) Q :=
  h.call (Xcall_fn Try.func4 (by decide +kernel) (by rfl) _ _ _ w) fun _ h => c4 h

/-! lychgate/lychgatelaw09.RulesHold -/
noncomputable def s5 (x0 x1 : Value) (w : World) : Option (Value × World) :=
  (Xbox Try.prog 37 x1 w).bind fun r102 =>
  (Xcall Try.prog (Value.func (Fn.func 17) #[] #[]) #[x0] r102.2).bind fun r103 =>
  (Qext r103.1 0).bind fun v104 =>
  (Qext r103.1 1).bind fun _ =>
  (Qext r103.1 2).bind fun v106 =>
  (Xcall Try.prog (Value.func (Fn.func 14) #[] #[]) #[] r103.2).bind fun r107 =>
  (Qun Go.UnOp.not r107.1).bind fun v108 =>
  (guardQ v108 false (Qun Go.UnOp.not (gv (isB v108 false) v106))).bind fun v109 =>
  (Qpick v108 (Go.Value.bool true) v109).bind fun v110 =>
  condK v110 (
    some ((Go.Value.bool false), r107.2)
  ) (
    (QfieldAddr Try.prog 37 r102.1 0).bind fun v111 =>
    (Qload Try.prog 23 v111 r107.2).bind fun v112 =>
    (Xcall Try.prog (Value.func (Fn.func 18) #[] #[]) #[v104, v112] r107.2).bind fun r113 =>
    (Qext r113.1 0).bind fun v114 =>
    (Qext r113.1 1).bind fun v115 =>
    (Xalloc Try.prog 26 r113.2).bind fun r116 =>
    (Xstore Try.prog 26 r116.1 v114 r116.2).bind fun r117 =>
    (QfieldAddr Try.prog 37 r102.1 1).bind fun v118 =>
    (Qload Try.prog 5 v118 r117.2).bind fun v119 =>
    (QfieldAddr Try.prog 37 r102.1 2).bind fun v120 =>
    (Qload Try.prog 23 v120 r117.2).bind fun v121 =>
    (QfieldAddr Try.prog 37 r102.1 3).bind fun v122 =>
    (Qload Try.prog 24 v122 r117.2).bind fun v123 =>
    (Xcall Try.prog (Value.func (Fn.func 19) #[] #[]) #[v104, v119, v121, v123] r117.2).bind fun r124 =>
    (Qext r124.1 0).bind fun v125 =>
    (Qext r124.1 1).bind fun v126 =>
    (Xalloc Try.prog 26 r124.2).bind fun r127 =>
    (Xstore Try.prog 26 r127.1 v125 r127.2).bind fun r128 =>
    (guardQ v115 true (QfieldAddr Try.prog 26 r116.1 0)).bind fun v129 =>
    (guardQ v115 true (Qload Try.prog 22 v129 r128.2.drew)).bind fun v130 =>
    (guardQ v115 true (Qbin Try.prog Go.BinOp.neq 22 v130 (Go.Value.int Go.IntKind.i64 1))).bind fun v131 =>
    (guardQ (gv (isB v115 true) v131) false (QfieldAddr Try.prog 26 r116.1 3)).bind fun v132 =>
    (guardQ (gv (isB v115 true) v131) false (Qload Try.prog 3 v132 r128.2.drew)).bind fun v133 =>
    (guardQ (gv (isB v115 true) v131) false (Qbin Try.prog Go.BinOp.lss 3 v133 (Go.Value.int Go.IntKind.i64 0))).bind fun v134 =>
    (guardQ v115 true (Qpick (gv (isB v115 true) v131) (Go.Value.bool true) v134)).bind fun v135 =>
    (guardQ (gv (isB v115 true) v135) false (QfieldAddr Try.prog 26 r116.1 3)).bind fun v136 =>
    (guardQ (gv (isB v115 true) v135) false (Qload Try.prog 3 v136 r128.2.drew)).bind fun v137 =>
    (guardQ (gv (isB v115 true) v135) false (Qbin Try.prog Go.BinOp.gtr 3 v137 (Go.Value.int Go.IntKind.i64 32))).bind fun v138 =>
    (guardQ v115 true (Qpick (gv (isB v115 true) v135) (Go.Value.bool true) v138)).bind fun v139 =>
    (guardQ (gv (isB v115 true) v139) false (QfieldAddr Try.prog 37 r102.1 0)).bind fun v140 =>
    (guardQ (gv (isB v115 true) v139) false (Qload Try.prog 23 v140 r128.2.drew)).bind fun v141 =>
    (guardQ (gv (isB v115 true) v139) false (Qconv Try.prog 23 45 v141)).bind fun v142 =>
    (guardQ (gv (isB v115 true) v139) false (QfieldAddr Try.prog 26 r116.1 3)).bind fun v143 =>
    (guardQ (gv (isB v115 true) v139) false (Qload Try.prog 3 v143 r128.2.drew)).bind fun v144 =>
    (guardQ (gv (isB v115 true) v139) false (Qbin Try.prog Go.BinOp.sub 3 (Go.Value.int Go.IntKind.i64 32) v144)).bind fun v145 =>
    (guardQ (gv (isB v115 true) v139) false (Qbin Try.prog Go.BinOp.shr 45 v142 v145)).bind fun v146 =>
    (guardQ (gv (isB v115 true) v139) false (QfieldAddr Try.prog 26 r116.1 2)).bind fun v147 =>
    (guardQ (gv (isB v115 true) v139) false (Qload Try.prog 23 v147 r128.2.drew)).bind fun v148 =>
    (guardQ (gv (isB v115 true) v139) false (Qconv Try.prog 23 45 v148)).bind fun v149 =>
    (guardQ (gv (isB v115 true) v139) false (QfieldAddr Try.prog 26 r116.1 3)).bind fun v150 =>
    (guardQ (gv (isB v115 true) v139) false (Qload Try.prog 3 v150 r128.2.drew)).bind fun v151 =>
    (guardQ (gv (isB v115 true) v139) false (Qbin Try.prog Go.BinOp.sub 3 (Go.Value.int Go.IntKind.i64 32) v151)).bind fun v152 =>
    (guardQ (gv (isB v115 true) v139) false (Qbin Try.prog Go.BinOp.shr 45 v149 v152)).bind fun v153 =>
    (guardQ (gv (isB v115 true) v139) false (Qbin Try.prog Go.BinOp.neq 45 v146 v153)).bind fun v154 =>
    (guardQ v115 true (Qpick (gv (isB v115 true) v139) (Go.Value.bool true) v154)).bind fun v155 =>
    (Qpick v115 v155 (Go.Value.bool false)).bind fun v156 =>
    chkK True (
      condK v156 (
        some ((Go.Value.bool false), r128.2.drew)
      ) (
        (Qun Go.UnOp.not v126).bind fun v157 =>
        (guardQ v157 false (QfieldAddr Try.prog 26 r127.1 0)).bind fun v158 =>
        (guardQ v157 false (Qload Try.prog 22 v158 r128.2.drew)).bind fun v159 =>
        (guardQ v157 false (Qbin Try.prog Go.BinOp.eql 22 v159 (Go.Value.int Go.IntKind.i64 2))).bind fun v160 =>
        (guardQ (gv (isB v157 false) v160) true (QfieldAddr Try.prog 26 r127.1 1)).bind fun v161 =>
        (guardQ (gv (isB v157 false) v160) true (Qload Try.prog 5 v161 r128.2.drew)).bind fun v162 =>
        (guardQ (gv (isB v157 false) v160) true (QfieldAddr Try.prog 37 r102.1 1)).bind fun v163 =>
        (guardQ (gv (isB v157 false) v160) true (Qload Try.prog 5 v163 r128.2.drew)).bind fun v164 =>
        (guardQ (gv (isB v157 false) v160) true (Qbin Try.prog Go.BinOp.eql 5 v162 v164)).bind fun v165 =>
        (guardQ v157 false (Qpick (gv (isB v157 false) v160) v165 (Go.Value.bool false))).bind fun v166 =>
        (guardQ (gv (isB v157 false) v166) true (QfieldAddr Try.prog 26 r127.1 4)).bind fun v167 =>
        (guardQ (gv (isB v157 false) v166) true (Qload Try.prog 23 v167 r128.2.drew)).bind fun v168 =>
        (guardQ (gv (isB v157 false) v166) true (QfieldAddr Try.prog 37 r102.1 2)).bind fun v169 =>
        (guardQ (gv (isB v157 false) v166) true (Qload Try.prog 23 v169 r128.2.drew)).bind fun v170 =>
        (guardQ (gv (isB v157 false) v166) true (Qbin Try.prog Go.BinOp.eql 23 v168 v170)).bind fun v171 =>
        (guardQ v157 false (Qpick (gv (isB v157 false) v166) v171 (Go.Value.bool false))).bind fun v172 =>
        (guardQ (gv (isB v157 false) v172) true (QfieldAddr Try.prog 26 r127.1 5)).bind fun v173 =>
        (guardQ (gv (isB v157 false) v172) true (Qload Try.prog 24 v173 r128.2.drew)).bind fun v174 =>
        (guardQ (gv (isB v157 false) v172) true (QfieldAddr Try.prog 37 r102.1 3)).bind fun v175 =>
        (guardQ (gv (isB v157 false) v172) true (Qload Try.prog 24 v175 r128.2.drew)).bind fun v176 =>
        (guardQ (gv (isB v157 false) v172) true (Qbin Try.prog Go.BinOp.eql 24 v174 v176)).bind fun v177 =>
        (guardQ v157 false (Qpick (gv (isB v157 false) v172) v177 (Go.Value.bool false))).bind fun v178 =>
        (Qpick v157 (Go.Value.bool true) v178).bind fun v179 =>
        some (v179, r128.2.drew)
      )
    )
  )
theorem s5eq (x0 x1 : Value) (w : World) : evK Try.prog 5 none (bodyOf Try.f5) none _ { tmps := (([x0, x1] : List Value) ++ List.replicate (103 - 2) undef).toArray, defers := [] } w (leaveK Try.prog Try.f5) = s5 x0 x1 w := by kernel_rfl
theorem c5 {x0 x1 : Value} {w : World} {r : Value × World} (h : s5 x0 x1 w = some r) : C Try.prog 5 #[x0, x1] w = some r :=
  C_ev follows_all drawLaw (by kernel_rfl) Try.func5 (by rfl) ((s5eq x0 x1 w).trans h)
theorem e5 {x0 x1 : Value} {w : World} {Q : Value × World → Prop} (h : Brings (s5 x0 x1 w) Q) : Brings (Xcall Try.prog (Value.func (Fn.func 5) #[] #[]) #[x0, x1] w) Q :=
  h.call (Xcall_fn Try.func5 (by decide +kernel) (by rfl) _ _ _ w) fun _ h => c5 h

/-! lychgate/lychgatelaw09.RulesMost -/
noncomputable def s6K0 : Exit → Act → World → Option (Value × World) := seqK (fun a w => evK Try.prog 6 none (nav [1, 1, 1, 1] (bodyOf Try.f6)) none _ a w (leaveK Try.prog Try.f6)) (leaveK Try.prog Try.f6)
noncomputable def s6K1 : Exit → Act → World → Option (Value × World) := blockK 0 s6K0
noncomputable def s6L0 (s : List Value) (d : List Deferred) (w : World) : Option (Value × World) := loopN Try.prog 6 none (nav [1, 1, 1, 0, 1, 0, 0] (bodyOf Try.f6)) s6K1 s d w
noncomputable def s6M1 (s1 s5 s6 : Value) (w : World) : Option (Value × World) :=
  (Xcall Try.prog (Value.func (Fn.func 16) #[] #[]) #[s5] w).bind fun r196 =>
  (Qlen Try.prog #[33] 3 #[r196.1] r196.2).bind fun v197 =>
  (Qbin Try.prog Go.BinOp.neq 3 v197 s6).bind fun v198 =>
  (guardQ v198 false (Qbin Try.prog Go.BinOp.eql 3 (gv (isB v198 false) s6) (Go.Value.int Go.IntKind.i64 0))).bind fun v199 =>
  (Qpick v198 (Go.Value.bool true) v199).bind fun v200 =>
  condK v200 (
    (Xcall Try.prog (Value.func (Fn.func 14) #[] #[]) #[] r196.2).bind fun r201 =>
    (guardQ r201.1 true (Qlen Try.prog #[33] 3 #[(gv (isB r201.1 true) r196.1)] r201.2)).bind fun v202 =>
    (guardQ r201.1 true (Qbin Try.prog Go.BinOp.eql 3 v202 (gv (isB r201.1 true) s6))).bind fun v203 =>
    (Qpick r201.1 v203 (Go.Value.bool false)).bind fun v204 =>
    some (v204, r201.2)
  ) (
    (Qconv Try.prog 5 3 s1).bind fun v205 =>
    (Qbin Try.prog Go.BinOp.rem 3 v205 s6).bind fun v206 =>
    (Xcall Try.prog (Value.func (Fn.func 20) #[] #[]) #[s5, v206] r196.2).bind fun r207 =>
    (Xcall Try.prog (Value.func (Fn.func 16) #[] #[]) #[s5] r207.2).bind fun r208 =>
    (Xcall Try.prog (Value.func (Fn.func 14) #[] #[]) #[] r208.2.drew).bind fun r209 =>
    (guardQ r209.1 true (Qbin Try.prog Go.BinOp.eql 29 (gv (isB r209.1 true) r207.1) (Go.Value.int Go.IntKind.i64 0))).bind fun v210 =>
    (Qpick r209.1 v210 (Go.Value.bool false)).bind fun v211 =>
    (guardQ v211 true (Qlen Try.prog #[33] 3 #[(gv (isB v211 true) r208.1)] r209.2)).bind fun v212 =>
    (guardQ v211 true (Qbin Try.prog Go.BinOp.sub 3 (gv (isB v211 true) s6) (Go.Value.int Go.IntKind.i64 1))).bind fun v213 =>
    (guardQ v211 true (Qbin Try.prog Go.BinOp.eql 3 v212 v213)).bind fun v214 =>
    (Qpick v211 v214 (Go.Value.bool false)).bind fun v215 =>
    (guardQ v215 true (Qslice Try.prog 33 (gv (isB v215 true) r208.1) none (some (gv (isB v215 true) v206)) none r209.2)).bind fun v216 =>
    (guardQ v215 true (Qslice Try.prog 33 (gv (isB v215 true) r196.1) none (some (gv (isB v215 true) v206)) none r209.2)).bind fun v217 =>
    (guardX v215 true r209.2 (Xcall Try.prog (Value.func (Fn.func 21) #[] #[]) #[v216, v217] r209.2)).bind fun r218 =>
    (Qpick v215 r218.1 (Go.Value.bool false)).bind fun v219 =>
    (guardQ v219 true (Qslice Try.prog 33 (gv (isB v219 true) r208.1) (some (gv (isB v219 true) v206)) none none r218.2)).bind fun v220 =>
    (guardQ v219 true (Qbin Try.prog Go.BinOp.add 3 (gv (isB v219 true) v206) (Go.Value.int Go.IntKind.i64 1))).bind fun v221 =>
    (guardQ v219 true (Qslice Try.prog 33 (gv (isB v219 true) r196.1) (some v221) none none r218.2)).bind fun v222 =>
    (guardX v219 true r218.2 (Xcall Try.prog (Value.func (Fn.func 21) #[] #[]) #[v220, v222] r218.2)).bind fun r223 =>
    (Qpick v219 r223.1 (Go.Value.bool false)).bind fun v224 =>
    (guardQ v224 true (Qbuild Try.prog 26 #[(0, (Go.Value.int Go.IntKind.i64 1)), (3, (Go.Value.int Go.IntKind.i64 0)), (4, (Go.Value.int Go.IntKind.u32 5))] r223.2)).bind fun v225 =>
    (guardX v224 true r223.2 (Xcall Try.prog (Value.func (Fn.func 12) #[] #[]) #[(gv (isB v224 true) s5), v225] r223.2)).bind fun r226 =>
    (guardQ v224 true (Qbin Try.prog Go.BinOp.eql 29 r226.1 (Go.Value.int Go.IntKind.i64 0))).bind fun v227 =>
    (Qpick v224 v227 (Go.Value.bool false)).bind fun v228 =>
    chkK True (
      some (v228, r226.2)
    )
  )
noncomputable def s6B0 : List Value → World → Option (Exit × List Value × World)
  | [x1, x4, x5, x6, x7], w =>
    (Qbin Try.prog Go.BinOp.lss 3 x7 x6).bind fun v183 =>
    condK v183 (
      (Qconv Try.prog 3 23 x7).bind fun v184 =>
      (Qbuild Try.prog 26 #[(0, (Go.Value.int Go.IntKind.i64 1)), (2, v184), (3, (Go.Value.int Go.IntKind.i64 32)), (4, (Go.Value.int Go.IntKind.u32 9))] w).bind fun v185 =>
      (Xcall Try.prog (Value.func (Fn.func 12) #[] #[]) #[x5, v185] w).bind fun r186 =>
      (Qbin Try.prog Go.BinOp.eql 29 r186.1 (Go.Value.int Go.IntKind.i64 0)).bind fun v187 =>
      (Qbin Try.prog Go.BinOp.lss 3 x7 (Go.Value.int Go.IntKind.i64 32)).bind fun v188 =>
      (Qbin Try.prog Go.BinOp.neq 4 v187 v188).bind fun v189 =>
      (guardQ v189 false (Qbin Try.prog Go.BinOp.neq 29 (gv (isB v189 false) r186.1) (Go.Value.int Go.IntKind.i64 0))).bind fun v190 =>
      (guardQ (gv (isB v189 false) v190) true (Qbin Try.prog Go.BinOp.neq 29 (gv (isB (gv (isB v189 false) v190) true) r186.1) (Go.Value.int Go.IntKind.i64 9))).bind fun v191 =>
      (guardQ v189 false (Qpick (gv (isB v189 false) v190) v191 (Go.Value.bool false))).bind fun v192 =>
      (Qpick v189 (Go.Value.bool true) v192).bind fun v193 =>
      condK v193 (
        some (Exit.ret, [x1, (Go.Value.bool false), x5, x6, x7], r186.2)
      ) (
        (Qbin Try.prog Go.BinOp.add 3 x7 (Go.Value.int Go.IntKind.i64 1)).bind fun v194 =>
        some (Exit.normal, [x1, x4, x5, x6, v194], r186.2)
      )
    ) (
      some ((Exit.exit 0), [x1, x4, x5, x6, x7], w)
    )
  | _, _ => none
noncomputable def s6K2 : Exit → Act → World → Option (Value × World) := seqK (fun a w => evK Try.prog 6 none (nav [1, 1, 1, 1, 1] (bodyOf Try.f6)) none _ a w (leaveK Try.prog Try.f6)) (leaveK Try.prog Try.f6)
noncomputable def s6J1 (s : List Value) (d : List Deferred) (w : World) : Option (Value × World) := s6K2 .normal ⟨s.toArray, d⟩ w
noncomputable def s6R0 : Exit → List Value → World → Option (Value × World)
  | (Exit.exit 0), [x1, _, x5, x6, _], w =>
    (Qbin Try.prog Go.BinOp.gtr 3 x6 (Go.Value.int Go.IntKind.i64 32)).bind fun v195 =>
    condK v195 (
      s6M1 x1 x5 (Go.Value.int Go.IntKind.i64 32) w
    ) (
      s6M1 x1 x5 x6 w
    )
  | Exit.ret, [_, x4, _, _, _], w =>
    some (x4, w)
  | _, _, _ => none
noncomputable def s6R0x0raw (x1 x4 x5 x6 x7 : Value) (g : Nat → Value) (w : World) : Option (Value × World) :=
  (Qbin Try.prog Go.BinOp.gtr 3 x6 (Go.Value.int Go.IntKind.i64 32)).bind fun v195 =>
  condK v195 (
    s6J1 [(g 0), x1, (g 2), (g 3), x4, x5, (Go.Value.int Go.IntKind.i64 32), x7, (g 8), (g 9), (g 10), (g 11), (g 12), (g 13), (g 14), (g 15), (g 16), (g 17), (g 18), (g 19), (g 20), (g 21), (g 22), (g 23), (g 24), (g 25), (g 26), (g 27), (g 28), (g 29), (g 30), (g 31), (g 32), (g 33), (g 34), (g 35), (g 36), (g 37), (g 38), (g 39), x6, v195, (g 42), (g 43), (g 44), (g 45), (g 46), (g 47), (g 48), (g 49), (g 50), (g 51), (g 52), (g 53), (g 54), (g 55), (g 56), (g 57), (g 58), (g 59), (g 60), (g 61), (g 62), (g 63), (g 64), (g 65), (g 66), (g 67), (g 68), (g 69), (g 70), (g 71), (g 72), (g 73), (g 74), (g 75), (g 76), (g 77), (g 78), (g 79), (g 80), (g 81), (g 82), (g 83), (g 84), (g 85), (g 86), (g 87), (g 88), (g 89), (g 90), (g 91), (g 92), (g 93), (g 94), (g 95), (g 96), (g 97), (g 98), (g 99), (g 100), (g 101), (g 102), (g 103), (g 104)] [] w
  ) (
    s6J1 [(g 0), x1, (g 2), (g 3), x4, x5, x6, x7, (g 8), (g 9), (g 10), (g 11), (g 12), (g 13), (g 14), (g 15), (g 16), (g 17), (g 18), (g 19), (g 20), (g 21), (g 22), (g 23), (g 24), (g 25), (g 26), (g 27), (g 28), (g 29), (g 30), (g 31), (g 32), (g 33), (g 34), (g 35), (g 36), (g 37), (g 38), (g 39), x6, v195, (g 42), (g 43), (g 44), (g 45), (g 46), (g 47), (g 48), (g 49), (g 50), (g 51), (g 52), (g 53), (g 54), (g 55), (g 56), (g 57), (g 58), (g 59), (g 60), (g 61), (g 62), (g 63), (g 64), (g 65), (g 66), (g 67), (g 68), (g 69), (g 70), (g 71), (g 72), (g 73), (g 74), (g 75), (g 76), (g 77), (g 78), (g 79), (g 80), (g 81), (g 82), (g 83), (g 84), (g 85), (g 86), (g 87), (g 88), (g 89), (g 90), (g 91), (g 92), (g 93), (g 94), (g 95), (g 96), (g 97), (g 98), (g 99), (g 100), (g 101), (g 102), (g 103), (g 104)] [] w
  )
noncomputable def s6raw (x0 x1 : Value) (w : World) : Option (Value × World) :=
  (Xcall Try.prog (Value.func (Fn.func 11) #[] #[]) #[] w).bind fun r180 =>
  (Qconv Try.prog 5 3 x0).bind fun v181 =>
  (Qbin Try.prog Go.BinOp.rem 3 v181 (Go.Value.int Go.IntKind.i64 60)).bind fun v182 =>
  s6L0 [x0, x1, undef, undef, (Go.Value.bool false), r180.1, v182, (Go.Value.int Go.IntKind.i64 0), undef, undef, undef, undef, undef, r180.1, x0, v181, v182, undef, undef, undef, undef, undef, undef, undef, undef, undef, undef, undef, undef, undef, undef, undef, undef, undef, undef, undef, undef, undef, undef, undef, undef, undef, undef, undef, undef, undef, undef, undef, undef, undef, undef, undef, undef, undef, undef, undef, undef, undef, undef, undef, undef, undef, undef, undef, undef, undef, undef, undef, undef, undef, undef, undef, undef, undef, undef, undef, undef, undef, undef, undef, undef, undef, undef, undef, undef, undef, undef, undef, undef, undef, undef, undef, undef, undef, undef, undef, undef, undef, undef, undef, undef, undef, undef, undef, undef] [] r180.2
noncomputable def s6 (x0 x1 : Value) (w : World) : Option (Value × World) :=
  (Xcall Try.prog (Value.func (Fn.func 11) #[] #[]) #[] w).bind fun r180 =>
  (Qconv Try.prog 5 3 x0).bind fun v181 =>
  (Qbin Try.prog Go.BinOp.rem 3 v181 (Go.Value.int Go.IntKind.i64 60)).bind fun v182 =>
  loopR s6B0 s6R0 [x1, (Go.Value.bool false), r180.1, v182, (Go.Value.int Go.IntKind.i64 0)] r180.2
theorem s6J1eq (s0 s1 s2 s3 s4 s5 s6 s7 s8 s9 s10 s11 s12 s13 s14 s15 s16 s17 s18 s19 s20 s21 s22 s23 s24 s25 s26 s27 s28 s29 s30 s31 s32 s33 s34 s35 s36 s37 s38 s39 s40 s41 s42 s43 s44 s45 s46 s47 s48 s49 s50 s51 s52 s53 s54 s55 s56 s57 s58 s59 s60 s61 s62 s63 s64 s65 s66 s67 s68 s69 s70 s71 s72 s73 s74 s75 s76 s77 s78 s79 s80 s81 s82 s83 s84 s85 s86 s87 s88 s89 s90 s91 s92 s93 s94 s95 s96 s97 s98 s99 s100 s101 s102 s103 s104 : Value) (w : World) : s6J1 [s0, s1, s2, s3, s4, s5, s6, s7, s8, s9, s10, s11, s12, s13, s14, s15, s16, s17, s18, s19, s20, s21, s22, s23, s24, s25, s26, s27, s28, s29, s30, s31, s32, s33, s34, s35, s36, s37, s38, s39, s40, s41, s42, s43, s44, s45, s46, s47, s48, s49, s50, s51, s52, s53, s54, s55, s56, s57, s58, s59, s60, s61, s62, s63, s64, s65, s66, s67, s68, s69, s70, s71, s72, s73, s74, s75, s76, s77, s78, s79, s80, s81, s82, s83, s84, s85, s86, s87, s88, s89, s90, s91, s92, s93, s94, s95, s96, s97, s98, s99, s100, s101, s102, s103, s104] [] w = s6M1 s1 s5 s6 w := by kernel_rfl
theorem s6J1of {s0 s1 s2 s3 s4 s5 s6 s7 s8 s9 s10 s11 s12 s13 s14 s15 s16 s17 s18 s19 s20 s21 s22 s23 s24 s25 s26 s27 s28 s29 s30 s31 s32 s33 s34 s35 s36 s37 s38 s39 s40 s41 s42 s43 s44 s45 s46 s47 s48 s49 s50 s51 s52 s53 s54 s55 s56 s57 s58 s59 s60 s61 s62 s63 s64 s65 s66 s67 s68 s69 s70 s71 s72 s73 s74 s75 s76 s77 s78 s79 s80 s81 s82 s83 s84 s85 s86 s87 s88 s89 s90 s91 s92 s93 s94 s95 s96 s97 s98 s99 s100 s101 s102 s103 s104 : Value} {w : World} {r : _} (h : s6M1 s1 s5 s6 w = some r) : s6J1 [s0, s1, s2, s3, s4, s5, s6, s7, s8, s9, s10, s11, s12, s13, s14, s15, s16, s17, s18, s19, s20, s21, s22, s23, s24, s25, s26, s27, s28, s29, s30, s31, s32, s33, s34, s35, s36, s37, s38, s39, s40, s41, s42, s43, s44, s45, s46, s47, s48, s49, s50, s51, s52, s53, s54, s55, s56, s57, s58, s59, s60, s61, s62, s63, s64, s65, s66, s67, s68, s69, s70, s71, s72, s73, s74, s75, s76, s77, s78, s79, s80, s81, s82, s83, s84, s85, s86, s87, s88, s89, s90, s91, s92, s93, s94, s95, s96, s97, s98, s99, s100, s101, s102, s103, s104] [] w = some r :=
  ((s6J1eq s0 s1 s2 s3 s4 s5 s6 s7 s8 s9 s10 s11 s12 s13 s14 s15 s16 s17 s18 s19 s20 s21 s22 s23 s24 s25 s26 s27 s28 s29 s30 s31 s32 s33 s34 s35 s36 s37 s38 s39 s40 s41 s42 s43 s44 s45 s46 s47 s48 s49 s50 s51 s52 s53 s54 s55 s56 s57 s58 s59 s60 s61 s62 s63 s64 s65 s66 s67 s68 s69 s70 s71 s72 s73 s74 s75 s76 s77 s78 s79 s80 s81 s82 s83 s84 s85 s86 s87 s88 s89 s90 s91 s92 s93 s94 s95 s96 s97 s98 s99 s100 s101 s102 s103 s104 w).trans h)
theorem s6B0eq (x1 x4 x5 x6 x7 : Value) (w : World) (g : Nat → Value) (d : List Deferred) : evK Try.prog 6 none (nav [1, 1, 1, 0, 1, 0, 0] (bodyOf Try.f6)) none _ (frm 105 (setL [1, 4, 5, 6, 7] [x1, x4, x5, x6, x7] g) d) w (projK [1, 4, 5, 6, 7]) = s6B0 [x1, x4, x5, x6, x7] w := by kernel_rfl
theorem s6R0x0eq (x1 x4 x5 x6 x7 : Value) (g : Nat → Value) (w : World) : s6K1 (Exit.exit 0) (frm 105 (setL [1, 4, 5, 6, 7] [x1, x4, x5, x6, x7] g) []) w = s6R0x0raw x1 x4 x5 x6 x7 g w := by kernel_rfl
theorem s6R0ret_eq (x1 x4 x5 x6 x7 : Value) (g : Nat → Value) (w : World) : s6K1 Exit.ret (frm 105 (setL [1, 4, 5, 6, 7] [x1, x4, x5, x6, x7] g) []) w = s6R0 Exit.ret [x1, x4, x5, x6, x7] w := by kernel_rfl
theorem s6R0of : ∀ (e : Exit) (xs : List Value) (w : World) (g : Nat → Value) (y : _), s6R0 e xs w = some y → s6K1 e (frm 105 (setL [1, 4, 5, 6, 7] xs g) []) w = some y := by
  intro e xs w g y h
  unfold s6R0 at h
  split at h
  · exact (s6R0x0eq _ _ _ _ _ g _).trans ((Ev.bind_mono fun (v195 : Value) => (condK_mono (s6J1of) (s6J1of))) h)
  · exact (s6R0ret_eq _ _ _ _ _ g _).trans h
  · cases h
theorem s6L0of {s0 s1 s2 s3 s4 s5 s6 s7 s8 s9 s10 s11 s12 s13 s14 s15 s16 s17 s18 s19 s20 s21 s22 s23 s24 s25 s26 s27 s28 s29 s30 s31 s32 s33 s34 s35 s36 s37 s38 s39 s40 s41 s42 s43 s44 s45 s46 s47 s48 s49 s50 s51 s52 s53 s54 s55 s56 s57 s58 s59 s60 s61 s62 s63 s64 s65 s66 s67 s68 s69 s70 s71 s72 s73 s74 s75 s76 s77 s78 s79 s80 s81 s82 s83 s84 s85 s86 s87 s88 s89 s90 s91 s92 s93 s94 s95 s96 s97 s98 s99 s100 s101 s102 s103 s104 : Value} {w : World} {r : _} (h : loopR s6B0 s6R0 [s1, s4, s5, s6, s7] w = some r) : s6L0 [s0, s1, s2, s3, s4, s5, s6, s7, s8, s9, s10, s11, s12, s13, s14, s15, s16, s17, s18, s19, s20, s21, s22, s23, s24, s25, s26, s27, s28, s29, s30, s31, s32, s33, s34, s35, s36, s37, s38, s39, s40, s41, s42, s43, s44, s45, s46, s47, s48, s49, s50, s51, s52, s53, s54, s55, s56, s57, s58, s59, s60, s61, s62, s63, s64, s65, s66, s67, s68, s69, s70, s71, s72, s73, s74, s75, s76, s77, s78, s79, s80, s81, s82, s83, s84, s85, s86, s87, s88, s89, s90, s91, s92, s93, s94, s95, s96, s97, s98, s99, s100, s101, s102, s103, s104] [] w = some r :=
  loopN_of (B := s6B0) (R := s6R0) (n := 105) (live := [1, 4, 5, 6, 7]) (fun xs w g y hl h => match xs, hl, h with | [x1, x4, x5, x6, x7], _, h => (s6B0eq x1 x4 x5 x6 x7 w g []).trans h) (by kernel_rfl) (s6R0of) (fun i => ([s0, s1, s2, s3, s4, s5, s6, s7, s8, s9, s10, s11, s12, s13, s14, s15, s16, s17, s18, s19, s20, s21, s22, s23, s24, s25, s26, s27, s28, s29, s30, s31, s32, s33, s34, s35, s36, s37, s38, s39, s40, s41, s42, s43, s44, s45, s46, s47, s48, s49, s50, s51, s52, s53, s54, s55, s56, s57, s58, s59, s60, s61, s62, s63, s64, s65, s66, s67, s68, s69, s70, s71, s72, s73, s74, s75, s76, s77, s78, s79, s80, s81, s82, s83, s84, s85, s86, s87, s88, s89, s90, s91, s92, s93, s94, s95, s96, s97, s98, s99, s100, s101, s102, s103, s104] : List Value).getD i undef) (by kernel_rfl) rfl h
theorem s6eq (x0 x1 : Value) (w : World) : evK Try.prog 6 none (bodyOf Try.f6) none _ { tmps := (([x0, x1] : List Value) ++ List.replicate (105 - 2) undef).toArray, defers := [] } w (leaveK Try.prog Try.f6) = s6raw x0 x1 w := by kernel_rfl
theorem c6 {x0 x1 : Value} {w : World} {r : Value × World} (h : s6 x0 x1 w = some r) : C Try.prog 6 #[x0, x1] w = some r :=
  C_ev follows_all drawLaw (by kernel_rfl) Try.func6 (by rfl) ((s6eq x0 x1 w).trans (show s6raw x0 x1 w = some r from (Ev.bind_mono fun (r180 : Value × World) => (Ev.bind_mono fun (v181 : Value) => (Ev.bind_mono fun (v182 : Value) => (s6L0of)))) h))
theorem e6 {x0 x1 : Value} {w : World} {Q : Value × World → Prop} (h : Brings (s6 x0 x1 w) Q) : Brings (Xcall Try.prog (Value.func (Fn.func 6) #[] #[]) #[x0, x1] w) Q :=
  h.call (Xcall_fn Try.func6 (by decide +kernel) (by rfl) _ _ _ w) fun _ h => c6 h

/-! lychgate/lychgatetop.TopNets -/
noncomputable def s7K0 : Exit → Act → World → Option (Value × World) := seqK (fun a w => evK Try.prog 7 none (nav [1, 1, 1, 1, 1, 1, 1] (bodyOf Try.f7)) none _ a w (leaveK Try.prog Try.f7)) (leaveK Try.prog Try.f7)
noncomputable def s7J0 (s : List Value) (d : List Deferred) (w : World) : Option (Value × World) := s7K0 .normal ⟨s.toArray, d⟩ w
noncomputable def s7M1 (s4 s5 s6 s7 s8 : Value) (w : World) : Option (Value × World) :=
  (Qbin Try.prog Go.BinOp.eql 29 s4 (Go.Value.int Go.IntKind.i64 0)).bind fun v243 =>
  (guardQ v243 true (Qbin Try.prog Go.BinOp.eql 29 (gv (isB v243 true) s5) (Go.Value.int Go.IntKind.i64 0))).bind fun v244 =>
  (Qpick v243 v244 (Go.Value.bool false)).bind fun v245 =>
  (guardQ v245 true (Qbin Try.prog Go.BinOp.gtr 23 (gv (isB v245 true) s8) (Go.Value.int Go.IntKind.u32 0))).bind fun v246 =>
  (guardQ v245 true (Qbin Try.prog Go.BinOp.eql 4 (gv (isB v245 true) s7) v246)).bind fun v247 =>
  (Qpick v245 v247 (Go.Value.bool false)).bind fun v248 =>
  (guardQ v248 true (QfieldAddr Try.prog 26 s6 4)).bind fun v249 =>
  (guardQ v248 true (Qload Try.prog 23 v249 w)).bind fun v250 =>
  (guardQ v248 true (Qbin Try.prog Go.BinOp.eql 23 v250 (gv (isB v248 true) s8))).bind fun v251 =>
  (Qpick v248 v251 (Go.Value.bool false)).bind fun v252 =>
  some (v252, w)
noncomputable def s7K1 : Exit → Act → World → Option (Value × World) := seqK (fun a w => evK Try.prog 7 none (nav [1, 1, 1, 1, 1, 1, 1, 1] (bodyOf Try.f7)) none _ a w (leaveK Try.prog Try.f7)) (leaveK Try.prog Try.f7)
noncomputable def s7J1 (s : List Value) (d : List Deferred) (w : World) : Option (Value × World) := s7K1 .normal ⟨s.toArray, d⟩ w
noncomputable def s7M0raw (s0 s1 s2 s3 s4 s5 s6 s7 s8 s9 s10 s11 s12 s13 s14 s15 s16 s17 s18 s19 s20 s21 s22 s23 s24 _s25 _s26 _s27 s28 s29 s30 s31 s32 s33 s34 s35 s36 s37 s38 s39 s40 s41 s42 s43 s44 s45 : Value) (w : World) : Option (Value × World) :=
  (Qbin Try.prog Go.BinOp.shr 23 s0 (Go.Value.int Go.IntKind.u64 16)).bind fun v241 =>
  (Qbin Try.prog Go.BinOp.eql 23 v241 (Go.Value.int Go.IntKind.u32 2561)).bind fun v242 =>
  condK v242 (
    s7J1 [s0, s1, s2, s3, s4, s5, s6, s7, (Go.Value.int Go.IntKind.u32 1), s9, s10, s11, s12, s13, s14, s15, s16, s17, s18, s19, s20, s21, s22, s23, s24, s0, v241, v242, s28, s29, s30, s31, s32, s33, s34, s35, s36, s37, s38, s39, s40, s41, s42, s43, s44, s45] [] w
  ) (
    s7J1 [s0, s1, s2, s3, s4, s5, s6, s7, s8, s9, s10, s11, s12, s13, s14, s15, s16, s17, s18, s19, s20, s21, s22, s23, s24, s0, v241, v242, s28, s29, s30, s31, s32, s33, s34, s35, s36, s37, s38, s39, s40, s41, s42, s43, s44, s45] [] w
  )
noncomputable def s7M0 (s0 s4 s5 s6 s7 s8 : Value) (w : World) : Option (Value × World) :=
  (Qbin Try.prog Go.BinOp.shr 23 s0 (Go.Value.int Go.IntKind.u64 16)).bind fun v241 =>
  (Qbin Try.prog Go.BinOp.eql 23 v241 (Go.Value.int Go.IntKind.u32 2561)).bind fun v242 =>
  condK v242 (
    s7M1 s4 s5 s6 s7 (Go.Value.int Go.IntKind.u32 1) w
  ) (
    s7M1 s4 s5 s6 s7 s8 w
  )
noncomputable def s7raw (x0 : Value) (w : World) : Option (Value × World) :=
  (Xcall Try.prog (Value.func (Fn.func 11) #[] #[]) #[] w).bind fun r229 =>
  (Qbuild Try.prog 26 #[(0, (Go.Value.int Go.IntKind.i64 1)), (2, (Go.Value.int Go.IntKind.u32 167837696)), (3, (Go.Value.int Go.IntKind.i64 16)), (4, (Go.Value.int Go.IntKind.u32 1))] r229.2).bind fun v230 =>
  (Xcall Try.prog (Value.func (Fn.func 12) #[] #[]) #[r229.1, v230] r229.2).bind fun r231 =>
  (Qbuild Try.prog 26 #[(0, (Go.Value.int Go.IntKind.i64 1)), (2, (Go.Value.int Go.IntKind.u32 167772160)), (3, (Go.Value.int Go.IntKind.i64 8)), (4, (Go.Value.int Go.IntKind.u32 2))] r231.2).bind fun v232 =>
  (Xcall Try.prog (Value.func (Fn.func 12) #[] #[]) #[r229.1, v232] r231.2).bind fun r233 =>
  (Xcall Try.prog (Value.func (Fn.func 18) #[] #[]) #[r229.1, x0] r233.2).bind fun r234 =>
  (Qext r234.1 0).bind fun v235 =>
  (Qext r234.1 1).bind fun v236 =>
  (Xalloc Try.prog 26 r234.2).bind fun r237 =>
  (Xstore Try.prog 26 r237.1 v235 r237.2).bind fun r238 =>
  (Qbin Try.prog Go.BinOp.shr 23 x0 (Go.Value.int Go.IntKind.u64 24)).bind fun v239 =>
  (Qbin Try.prog Go.BinOp.eql 23 v239 (Go.Value.int Go.IntKind.u32 10)).bind fun v240 =>
  condK v240 (
    s7J0 [x0, undef, (Go.Value.bool false), r229.1, r231.1, r233.1, r237.1, v236, (Go.Value.int Go.IntKind.u32 2), r229.1, r229.1, v230, r231.1, r229.1, v232, r233.1, r234.1, r229.1, x0, r234.1, v235, v236, x0, v239, v240, undef, undef, undef, undef, undef, undef, undef, undef, undef, undef, undef, undef, undef, undef, undef, undef, undef, undef, undef, undef, undef] [] r238.2
  ) (
    s7J0 [x0, undef, (Go.Value.bool false), r229.1, r231.1, r233.1, r237.1, v236, (Go.Value.int Go.IntKind.u32 0), r229.1, r229.1, v230, r231.1, r229.1, v232, r233.1, r234.1, r229.1, x0, r234.1, v235, v236, x0, v239, v240, undef, undef, undef, undef, undef, undef, undef, undef, undef, undef, undef, undef, undef, undef, undef, undef, undef, undef, undef, undef, undef] [] r238.2
  )
noncomputable def s7 (x0 : Value) (w : World) : Option (Value × World) :=
  (Xcall Try.prog (Value.func (Fn.func 11) #[] #[]) #[] w).bind fun r229 =>
  (Qbuild Try.prog 26 #[(0, (Go.Value.int Go.IntKind.i64 1)), (2, (Go.Value.int Go.IntKind.u32 167837696)), (3, (Go.Value.int Go.IntKind.i64 16)), (4, (Go.Value.int Go.IntKind.u32 1))] r229.2).bind fun v230 =>
  (Xcall Try.prog (Value.func (Fn.func 12) #[] #[]) #[r229.1, v230] r229.2).bind fun r231 =>
  (Qbuild Try.prog 26 #[(0, (Go.Value.int Go.IntKind.i64 1)), (2, (Go.Value.int Go.IntKind.u32 167772160)), (3, (Go.Value.int Go.IntKind.i64 8)), (4, (Go.Value.int Go.IntKind.u32 2))] r231.2).bind fun v232 =>
  (Xcall Try.prog (Value.func (Fn.func 12) #[] #[]) #[r229.1, v232] r231.2).bind fun r233 =>
  (Xcall Try.prog (Value.func (Fn.func 18) #[] #[]) #[r229.1, x0] r233.2).bind fun r234 =>
  (Qext r234.1 0).bind fun v235 =>
  (Qext r234.1 1).bind fun v236 =>
  (Xalloc Try.prog 26 r234.2).bind fun r237 =>
  (Xstore Try.prog 26 r237.1 v235 r237.2).bind fun r238 =>
  (Qbin Try.prog Go.BinOp.shr 23 x0 (Go.Value.int Go.IntKind.u64 24)).bind fun v239 =>
  (Qbin Try.prog Go.BinOp.eql 23 v239 (Go.Value.int Go.IntKind.u32 10)).bind fun v240 =>
  condK v240 (
    s7M0 x0 r231.1 r233.1 r237.1 v236 (Go.Value.int Go.IntKind.u32 2) r238.2
  ) (
    s7M0 x0 r231.1 r233.1 r237.1 v236 (Go.Value.int Go.IntKind.u32 0) r238.2
  )
theorem s7J1eq (s0 s1 s2 s3 s4 s5 s6 s7 s8 s9 s10 s11 s12 s13 s14 s15 s16 s17 s18 s19 s20 s21 s22 s23 s24 s25 s26 s27 s28 s29 s30 s31 s32 s33 s34 s35 s36 s37 s38 s39 s40 s41 s42 s43 s44 s45 : Value) (w : World) : s7J1 [s0, s1, s2, s3, s4, s5, s6, s7, s8, s9, s10, s11, s12, s13, s14, s15, s16, s17, s18, s19, s20, s21, s22, s23, s24, s25, s26, s27, s28, s29, s30, s31, s32, s33, s34, s35, s36, s37, s38, s39, s40, s41, s42, s43, s44, s45] [] w = s7M1 s4 s5 s6 s7 s8 w := by kernel_rfl
theorem s7J1of {s0 s1 s2 s3 s4 s5 s6 s7 s8 s9 s10 s11 s12 s13 s14 s15 s16 s17 s18 s19 s20 s21 s22 s23 s24 s25 s26 s27 s28 s29 s30 s31 s32 s33 s34 s35 s36 s37 s38 s39 s40 s41 s42 s43 s44 s45 : Value} {w : World} {r : _} (h : s7M1 s4 s5 s6 s7 s8 w = some r) : s7J1 [s0, s1, s2, s3, s4, s5, s6, s7, s8, s9, s10, s11, s12, s13, s14, s15, s16, s17, s18, s19, s20, s21, s22, s23, s24, s25, s26, s27, s28, s29, s30, s31, s32, s33, s34, s35, s36, s37, s38, s39, s40, s41, s42, s43, s44, s45] [] w = some r :=
  ((s7J1eq s0 s1 s2 s3 s4 s5 s6 s7 s8 s9 s10 s11 s12 s13 s14 s15 s16 s17 s18 s19 s20 s21 s22 s23 s24 s25 s26 s27 s28 s29 s30 s31 s32 s33 s34 s35 s36 s37 s38 s39 s40 s41 s42 s43 s44 s45 w).trans h)
theorem s7J0eq (s0 s1 s2 s3 s4 s5 s6 s7 s8 s9 s10 s11 s12 s13 s14 s15 s16 s17 s18 s19 s20 s21 s22 s23 s24 s25 s26 s27 s28 s29 s30 s31 s32 s33 s34 s35 s36 s37 s38 s39 s40 s41 s42 s43 s44 s45 : Value) (w : World) : s7J0 [s0, s1, s2, s3, s4, s5, s6, s7, s8, s9, s10, s11, s12, s13, s14, s15, s16, s17, s18, s19, s20, s21, s22, s23, s24, s25, s26, s27, s28, s29, s30, s31, s32, s33, s34, s35, s36, s37, s38, s39, s40, s41, s42, s43, s44, s45] [] w = s7M0raw s0 s1 s2 s3 s4 s5 s6 s7 s8 s9 s10 s11 s12 s13 s14 s15 s16 s17 s18 s19 s20 s21 s22 s23 s24 s25 s26 s27 s28 s29 s30 s31 s32 s33 s34 s35 s36 s37 s38 s39 s40 s41 s42 s43 s44 s45 w := by kernel_rfl
theorem s7J0of {s0 s1 s2 s3 s4 s5 s6 s7 s8 s9 s10 s11 s12 s13 s14 s15 s16 s17 s18 s19 s20 s21 s22 s23 s24 s25 s26 s27 s28 s29 s30 s31 s32 s33 s34 s35 s36 s37 s38 s39 s40 s41 s42 s43 s44 s45 : Value} {w : World} {r : _} (h : s7M0 s0 s4 s5 s6 s7 s8 w = some r) : s7J0 [s0, s1, s2, s3, s4, s5, s6, s7, s8, s9, s10, s11, s12, s13, s14, s15, s16, s17, s18, s19, s20, s21, s22, s23, s24, s25, s26, s27, s28, s29, s30, s31, s32, s33, s34, s35, s36, s37, s38, s39, s40, s41, s42, s43, s44, s45] [] w = some r :=
  ((s7J0eq s0 s1 s2 s3 s4 s5 s6 s7 s8 s9 s10 s11 s12 s13 s14 s15 s16 s17 s18 s19 s20 s21 s22 s23 s24 s25 s26 s27 s28 s29 s30 s31 s32 s33 s34 s35 s36 s37 s38 s39 s40 s41 s42 s43 s44 s45 w).trans ((Ev.bind_mono fun (v241 : Value) => (Ev.bind_mono fun (v242 : Value) => (condK_mono (s7J1of) (s7J1of)))) h))
theorem s7eq (x0 : Value) (w : World) : evK Try.prog 7 none (bodyOf Try.f7) none _ { tmps := (([x0] : List Value) ++ List.replicate (46 - 1) undef).toArray, defers := [] } w (leaveK Try.prog Try.f7) = s7raw x0 w := by kernel_rfl
theorem c7 {x0 : Value} {w : World} {r : Value × World} (h : s7 x0 w = some r) : C Try.prog 7 #[x0] w = some r :=
  C_ev follows_all drawLaw (by kernel_rfl) Try.func7 (by rfl) ((s7eq x0 w).trans (show s7raw x0 w = some r from (Ev.bind_mono fun (r229 : Value × World) => (Ev.bind_mono fun (v230 : Value) => (Ev.bind_mono fun (r231 : Value × World) => (Ev.bind_mono fun (v232 : Value) => (Ev.bind_mono fun (r233 : Value × World) => (Ev.bind_mono fun (r234 : Value × World) => (Ev.bind_mono fun (v235 : Value) => (Ev.bind_mono fun (v236 : Value) => (Ev.bind_mono fun (r237 : Value × World) => (Ev.bind_mono fun (r238 : Value × World) => (Ev.bind_mono fun (v239 : Value) => (Ev.bind_mono fun (v240 : Value) => (condK_mono (s7J0of) (s7J0of)))))))))))))) h))
theorem e7 {x0 : Value} {w : World} {Q : Value × World → Prop} (h : Brings (s7 x0 w) Q) : Brings (Xcall Try.prog (Value.func (Fn.func 7) #[] #[]) #[x0] w) Q :=
  h.call (Xcall_fn Try.func7 (by decide +kernel) (by rfl) _ _ _ w) fun _ h => c7 h

/-! lychgate/lychgatelaw09.RulesPlays -/
noncomputable def s8 (x0 x1 : Value) (w : World) : Option (Value × World) :=
  (Xbox Try.prog 37 x1 w).bind fun r253 =>
  (Xcall Try.prog (Value.func (Fn.func 17) #[] #[]) #[x0] r253.2).bind fun r254 =>
  (Qext r254.1 0).bind fun v255 =>
  (Qext r254.1 1).bind fun v256 =>
  (Qext r254.1 2).bind fun v257 =>
  (Xcall Try.prog (Value.func (Fn.func 14) #[] #[]) #[] r254.2).bind fun r258 =>
  (Qpick r258.1 (gv (isB r258.1 true) v257) (Go.Value.bool false)).bind fun v259 =>
  (guardQ v259 true (Qload Try.prog 37 r253.1 r258.2)).bind fun v260 =>
  (guardX v259 true r258.2 (Xcall Try.prog (Value.func (Fn.func 22) #[] #[]) #[(gv (isB v259 true) v255), (gv (isB v259 true) v256), v260] r258.2)).bind fun r261 =>
  (Qpick v259 r261.1 (Go.Value.bool false)).bind fun v262 =>
  some (v262, r261.2)
theorem s8eq (x0 x1 : Value) (w : World) : evK Try.prog 8 none (bodyOf Try.f8) none _ { tmps := (([x0, x1] : List Value) ++ List.replicate (24 - 2) undef).toArray, defers := [] } w (leaveK Try.prog Try.f8) = s8 x0 x1 w := by kernel_rfl
theorem c8 {x0 x1 : Value} {w : World} {r : Value × World} (h : s8 x0 x1 w = some r) : C Try.prog 8 #[x0, x1] w = some r :=
  C_ev follows_all drawLaw (by kernel_rfl) Try.func8 (by rfl) ((s8eq x0 x1 w).trans h)
theorem e8 {x0 x1 : Value} {w : World} {Q : Value × World → Prop} (h : Brings (s8 x0 x1 w) Q) : Brings (Xcall Try.prog (Value.func (Fn.func 8) #[] #[]) #[x0, x1] w) Q :=
  h.call (Xcall_fn Try.func8 (by decide +kernel) (by rfl) _ _ _ w) fun _ h => c8 h

/-! lychgate/lychgatelaw09.RulesForks -/
noncomputable def s9K0 : Exit → Act → World → Option (Value × World) := seqK (fun a w => evK Try.prog 9 none (nav [1, 1, 1, 1, 1] (bodyOf Try.f9)) none _ a w (leaveK Try.prog Try.f9)) (leaveK Try.prog Try.f9)
noncomputable def s9K1 : Exit → Act → World → Option (Value × World) := blockK 0 s9K0
noncomputable def s9L0 (s : List Value) (d : List Deferred) (w : World) : Option (Value × World) := loopN Try.prog 9 none (nav [1, 1, 1, 1, 0, 1, 0, 0] (bodyOf Try.f9)) s9K1 s d w
noncomputable def s9B1 : List Value → World → Option (Exit × List Value × World)
  | [x5, x7, x8, x10, x11, x13, x14], w =>
    (Qlen Try.prog #[33] 3 #[x13] w).bind fun v284 =>
    (Qbin Try.prog Go.BinOp.lss 3 x14 v284).bind fun v285 =>
    condK v285 (
      (Qbuild Try.prog 26 #[] w).bind fun v286 =>
      (QindexAddr Try.prog 33 x13 x14 w).bind fun v287 =>
      (Xstore Try.prog 26 v287 v286 w).bind fun r288 =>
      (Qbin Try.prog Go.BinOp.add 3 x14 (Go.Value.int Go.IntKind.i64 1)).bind fun v289 =>
      some (Exit.normal, [x5, x7, x8, x10, x11, x13, v289], r288.2)
    ) (
      some ((Exit.exit 2), [x5, x7, x8, x10, x11, x13, x14], w)
    )
  | _, _ => none
noncomputable def s9R1 : Exit → List Value → World → Option (Value × World)
  | (Exit.exit 2), [x5, x7, x8, x10, x11, _, _], w =>
    (Qload Try.prog 37 x5 w).bind fun v290 =>
    (Xcall Try.prog (Value.func (Fn.func 22) #[] #[]) #[x7, x8, v290] w).bind fun r291 =>
    (guardQ r291.1 true (Qload Try.prog 37 x5 r291.2)).bind fun v292 =>
    (guardX r291.1 true r291.2 (Xcall Try.prog (Value.func (Fn.func 22) #[] #[]) #[(gv (isB r291.1 true) x10), (gv (isB r291.1 true) x11), v292] r291.2)).bind fun r293 =>
    (Qpick r291.1 r293.1 (Go.Value.bool false)).bind fun v294 =>
    some (v294, r293.2)
  | _, _, _ => none
noncomputable def s9B0 : List Value → World → Option (Exit × List Value × World)
  | [x1, x5, x6, x7, x8, x10, x11, x12], w =>
    (Qlen Try.prog #[35] 3 #[x1] w).bind fun v274 =>
    (Qbin Try.prog Go.BinOp.lss 3 x12 v274).bind fun v275 =>
    (guardQ v275 true (Qbin Try.prog Go.BinOp.lss 3 (gv (isB v275 true) x12) (Go.Value.int Go.IntKind.i64 40))).bind fun v276 =>
    (Qpick v275 v276 (Go.Value.bool false)).bind fun v277 =>
    condK v277 (
      (QindexAddr Try.prog 35 x1 x12 w).bind fun v278 =>
      (Qload Try.prog 56 v278 w).bind fun v279 =>
      (Xcall Try.prog (Value.func (Fn.func 25) #[] #[]) #[x10, x11, v279] w).bind fun r280 =>
      (Qun Go.UnOp.not r280.1).bind fun v281 =>
      condK v281 (
        some (Exit.ret, [x1, x5, (Go.Value.bool false), x7, x8, x10, x11, x12], r280.2)
      ) (
        (Qbin Try.prog Go.BinOp.add 3 x12 (Go.Value.int Go.IntKind.i64 1)).bind fun v282 =>
        some (Exit.normal, [x1, x5, x6, x7, x8, x10, x11, v282], r280.2)
      )
    ) (
      some ((Exit.exit 0), [x1, x5, x6, x7, x8, x10, x11, x12], w)
    )
  | _, _ => none
noncomputable def s9K2 : Exit → Act → World → Option (Value × World) := seqK (fun a w => evK Try.prog 9 none (nav [1, 1, 1, 1, 1, 1, 1] (bodyOf Try.f9)) none _ a w (leaveK Try.prog Try.f9)) (leaveK Try.prog Try.f9)
noncomputable def s9K3 : Exit → Act → World → Option (Value × World) := blockK 2 s9K2
noncomputable def s9L1 (s : List Value) (d : List Deferred) (w : World) : Option (Value × World) := loopN Try.prog 9 none (nav [1, 1, 1, 1, 1, 1, 0, 1, 0, 0] (bodyOf Try.f9)) s9K3 s d w
noncomputable def s9R0 : Exit → List Value → World → Option (Value × World)
  | (Exit.exit 0), [_, x5, _, x7, x8, x10, x11, _], w =>
    (Xcall Try.prog (Value.func (Fn.func 16) #[] #[]) #[x7] w).bind fun r283 =>
    loopR s9B1 s9R1 [x5, x7, x8, x10, x11, r283.1, (Go.Value.int Go.IntKind.i64 0)] r283.2
  | Exit.ret, [_, _, x6, _, _, _, _, _], w =>
    some (x6, w)
  | _, _, _ => none
noncomputable def s9R0x0raw (x1 x5 x6 x7 x8 x10 x11 x12 : Value) (g : Nat → Value) (w : World) : Option (Value × World) :=
  (Xcall Try.prog (Value.func (Fn.func 16) #[] #[]) #[x7] w).bind fun r283 =>
  s9L1 [(g 0), x1, (g 2), (g 3), (g 4), x5, x6, x7, x8, (g 9), x10, x11, x12, r283.1, (Go.Value.int Go.IntKind.i64 0), (g 15), (g 16), (g 17), (g 18), (g 19), (g 20), (g 21), (g 22), (g 23), (g 24), (g 25), (g 26), (g 27), (g 28), (g 29), (g 30), (g 31), (g 32), (g 33), (g 34), (g 35), (g 36), (g 37), (g 38), (g 39), (g 40), (g 41), (g 42), (g 43), (g 44), (g 45), (g 46), (g 47), (g 48), x7, r283.1, (g 51), (g 52), (g 53), (g 54), (g 55), (g 56), (g 57), (g 58), (g 59), (g 60), (g 61), (g 62), (g 63), (g 64), (g 65), (g 66), (g 67), (g 68), (g 69), (g 70)] [] r283.2
noncomputable def s9raw (x0 x1 x2 : Value) (w : World) : Option (Value × World) :=
  (Xbox Try.prog 37 x2 w).bind fun r263 =>
  (Xcall Try.prog (Value.func (Fn.func 17) #[] #[]) #[x0] r263.2).bind fun r264 =>
  (Qext r264.1 0).bind fun v265 =>
  (Qext r264.1 1).bind fun v266 =>
  (Qext r264.1 2).bind fun v267 =>
  (Xcall Try.prog (Value.func (Fn.func 14) #[] #[]) #[] r264.2).bind fun r268 =>
  (Qun Go.UnOp.not r268.1).bind fun v269 =>
  (guardQ v269 false (Qun Go.UnOp.not (gv (isB v269 false) v267))).bind fun v270 =>
  (Qpick v269 (Go.Value.bool true) v270).bind fun v271 =>
  condK v271 (
    some ((Go.Value.bool false), r268.2)
  ) (
    (Xcall Try.prog (Value.func (Fn.func 23) #[] #[]) #[v265] r268.2).bind fun r272 =>
    (Xcall Try.prog (Value.func (Fn.func 24) #[] #[]) #[v266] r272.2).bind fun r273 =>
    s9L0 [x0, x1, x2, undef, undef, r263.1, (Go.Value.bool false), v265, v266, v267, r272.1, r273.1, (Go.Value.int Go.IntKind.i64 0), undef, undef, r264.1, x0, r264.1, v265, v266, v267, r268.1, v269, v269, (gv (isB v269 false) v267), v270, v271, v265, r272.1, v266, r273.1, undef, undef, undef, undef, undef, undef, undef, undef, undef, undef, undef, undef, undef, undef, undef, undef, undef, undef, undef, undef, undef, undef, undef, undef, undef, undef, undef, undef, undef, undef, undef, undef, undef, undef, undef, undef, undef, undef, undef, undef] [] r273.2
  )
noncomputable def s9 (x0 x1 x2 : Value) (w : World) : Option (Value × World) :=
  (Xbox Try.prog 37 x2 w).bind fun r263 =>
  (Xcall Try.prog (Value.func (Fn.func 17) #[] #[]) #[x0] r263.2).bind fun r264 =>
  (Qext r264.1 0).bind fun v265 =>
  (Qext r264.1 1).bind fun v266 =>
  (Qext r264.1 2).bind fun v267 =>
  (Xcall Try.prog (Value.func (Fn.func 14) #[] #[]) #[] r264.2).bind fun r268 =>
  (Qun Go.UnOp.not r268.1).bind fun v269 =>
  (guardQ v269 false (Qun Go.UnOp.not (gv (isB v269 false) v267))).bind fun v270 =>
  (Qpick v269 (Go.Value.bool true) v270).bind fun v271 =>
  condK v271 (
    some ((Go.Value.bool false), r268.2)
  ) (
    (Xcall Try.prog (Value.func (Fn.func 23) #[] #[]) #[v265] r268.2).bind fun r272 =>
    (Xcall Try.prog (Value.func (Fn.func 24) #[] #[]) #[v266] r272.2).bind fun r273 =>
    loopR s9B0 s9R0 [x1, r263.1, (Go.Value.bool false), v265, v266, r272.1, r273.1, (Go.Value.int Go.IntKind.i64 0)] r273.2
  )
theorem s9B1eq (x5 x7 x8 x10 x11 x13 x14 : Value) (w : World) (g : Nat → Value) (d : List Deferred) : evK Try.prog 9 none (nav [1, 1, 1, 1, 1, 1, 0, 1, 0, 0] (bodyOf Try.f9)) none _ (frm 71 (setL [5, 7, 8, 10, 11, 13, 14] [x5, x7, x8, x10, x11, x13, x14] g) d) w (projK [5, 7, 8, 10, 11, 13, 14]) = s9B1 [x5, x7, x8, x10, x11, x13, x14] w := by kernel_rfl
theorem s9R1x2eq (x5 x7 x8 x10 x11 x13 x14 : Value) (g : Nat → Value) (w : World) : s9K3 (Exit.exit 2) (frm 71 (setL [5, 7, 8, 10, 11, 13, 14] [x5, x7, x8, x10, x11, x13, x14] g) []) w = s9R1 (Exit.exit 2) [x5, x7, x8, x10, x11, x13, x14] w := by kernel_rfl
theorem s9R1of : ∀ (e : Exit) (xs : List Value) (w : World) (g : Nat → Value) (y : _), s9R1 e xs w = some y → s9K3 e (frm 71 (setL [5, 7, 8, 10, 11, 13, 14] xs g) []) w = some y := by
  intro e xs w g y h
  unfold s9R1 at h
  split at h
  · exact (s9R1x2eq _ _ _ _ _ _ _ g _).trans h
  · cases h
theorem s9L1of {s0 s1 s2 s3 s4 s5 s6 s7 s8 s9 s10 s11 s12 s13 s14 s15 s16 s17 s18 s19 s20 s21 s22 s23 s24 s25 s26 s27 s28 s29 s30 s31 s32 s33 s34 s35 s36 s37 s38 s39 s40 s41 s42 s43 s44 s45 s46 s47 s48 s49 s50 s51 s52 s53 s54 s55 s56 s57 s58 s59 s60 s61 s62 s63 s64 s65 s66 s67 s68 s69 s70 : Value} {w : World} {r : _} (h : loopR s9B1 s9R1 [s5, s7, s8, s10, s11, s13, s14] w = some r) : s9L1 [s0, s1, s2, s3, s4, s5, s6, s7, s8, s9, s10, s11, s12, s13, s14, s15, s16, s17, s18, s19, s20, s21, s22, s23, s24, s25, s26, s27, s28, s29, s30, s31, s32, s33, s34, s35, s36, s37, s38, s39, s40, s41, s42, s43, s44, s45, s46, s47, s48, s49, s50, s51, s52, s53, s54, s55, s56, s57, s58, s59, s60, s61, s62, s63, s64, s65, s66, s67, s68, s69, s70] [] w = some r :=
  loopN_of (B := s9B1) (R := s9R1) (n := 71) (live := [5, 7, 8, 10, 11, 13, 14]) (fun xs w g y hl h => match xs, hl, h with | [x5, x7, x8, x10, x11, x13, x14], _, h => (s9B1eq x5 x7 x8 x10 x11 x13 x14 w g []).trans h) (by kernel_rfl) (s9R1of) (fun i => ([s0, s1, s2, s3, s4, s5, s6, s7, s8, s9, s10, s11, s12, s13, s14, s15, s16, s17, s18, s19, s20, s21, s22, s23, s24, s25, s26, s27, s28, s29, s30, s31, s32, s33, s34, s35, s36, s37, s38, s39, s40, s41, s42, s43, s44, s45, s46, s47, s48, s49, s50, s51, s52, s53, s54, s55, s56, s57, s58, s59, s60, s61, s62, s63, s64, s65, s66, s67, s68, s69, s70] : List Value).getD i undef) (by kernel_rfl) rfl h
theorem s9B0eq (x1 x5 x6 x7 x8 x10 x11 x12 : Value) (w : World) (g : Nat → Value) (d : List Deferred) : evK Try.prog 9 none (nav [1, 1, 1, 1, 0, 1, 0, 0] (bodyOf Try.f9)) none _ (frm 71 (setL [1, 5, 6, 7, 8, 10, 11, 12] [x1, x5, x6, x7, x8, x10, x11, x12] g) d) w (projK [1, 5, 6, 7, 8, 10, 11, 12]) = s9B0 [x1, x5, x6, x7, x8, x10, x11, x12] w := by kernel_rfl
theorem s9R0x0eq (x1 x5 x6 x7 x8 x10 x11 x12 : Value) (g : Nat → Value) (w : World) : s9K1 (Exit.exit 0) (frm 71 (setL [1, 5, 6, 7, 8, 10, 11, 12] [x1, x5, x6, x7, x8, x10, x11, x12] g) []) w = s9R0x0raw x1 x5 x6 x7 x8 x10 x11 x12 g w := by kernel_rfl
theorem s9R0ret_eq (x1 x5 x6 x7 x8 x10 x11 x12 : Value) (g : Nat → Value) (w : World) : s9K1 Exit.ret (frm 71 (setL [1, 5, 6, 7, 8, 10, 11, 12] [x1, x5, x6, x7, x8, x10, x11, x12] g) []) w = s9R0 Exit.ret [x1, x5, x6, x7, x8, x10, x11, x12] w := by kernel_rfl
theorem s9R0of : ∀ (e : Exit) (xs : List Value) (w : World) (g : Nat → Value) (y : _), s9R0 e xs w = some y → s9K1 e (frm 71 (setL [1, 5, 6, 7, 8, 10, 11, 12] xs g) []) w = some y := by
  intro e xs w g y h
  unfold s9R0 at h
  split at h
  · exact (s9R0x0eq _ _ _ _ _ _ _ _ g _).trans ((Ev.bind_mono fun (r283 : Value × World) => (s9L1of)) h)
  · exact (s9R0ret_eq _ _ _ _ _ _ _ _ g _).trans h
  · cases h
theorem s9L0of {s0 s1 s2 s3 s4 s5 s6 s7 s8 s9 s10 s11 s12 s13 s14 s15 s16 s17 s18 s19 s20 s21 s22 s23 s24 s25 s26 s27 s28 s29 s30 s31 s32 s33 s34 s35 s36 s37 s38 s39 s40 s41 s42 s43 s44 s45 s46 s47 s48 s49 s50 s51 s52 s53 s54 s55 s56 s57 s58 s59 s60 s61 s62 s63 s64 s65 s66 s67 s68 s69 s70 : Value} {w : World} {r : _} (h : loopR s9B0 s9R0 [s1, s5, s6, s7, s8, s10, s11, s12] w = some r) : s9L0 [s0, s1, s2, s3, s4, s5, s6, s7, s8, s9, s10, s11, s12, s13, s14, s15, s16, s17, s18, s19, s20, s21, s22, s23, s24, s25, s26, s27, s28, s29, s30, s31, s32, s33, s34, s35, s36, s37, s38, s39, s40, s41, s42, s43, s44, s45, s46, s47, s48, s49, s50, s51, s52, s53, s54, s55, s56, s57, s58, s59, s60, s61, s62, s63, s64, s65, s66, s67, s68, s69, s70] [] w = some r :=
  loopN_of (B := s9B0) (R := s9R0) (n := 71) (live := [1, 5, 6, 7, 8, 10, 11, 12]) (fun xs w g y hl h => match xs, hl, h with | [x1, x5, x6, x7, x8, x10, x11, x12], _, h => (s9B0eq x1 x5 x6 x7 x8 x10 x11 x12 w g []).trans h) (by kernel_rfl) (s9R0of) (fun i => ([s0, s1, s2, s3, s4, s5, s6, s7, s8, s9, s10, s11, s12, s13, s14, s15, s16, s17, s18, s19, s20, s21, s22, s23, s24, s25, s26, s27, s28, s29, s30, s31, s32, s33, s34, s35, s36, s37, s38, s39, s40, s41, s42, s43, s44, s45, s46, s47, s48, s49, s50, s51, s52, s53, s54, s55, s56, s57, s58, s59, s60, s61, s62, s63, s64, s65, s66, s67, s68, s69, s70] : List Value).getD i undef) (by kernel_rfl) rfl h
theorem s9eq (x0 x1 x2 : Value) (w : World) : evK Try.prog 9 none (bodyOf Try.f9) none _ { tmps := (([x0, x1, x2] : List Value) ++ List.replicate (71 - 3) undef).toArray, defers := [] } w (leaveK Try.prog Try.f9) = s9raw x0 x1 x2 w := by kernel_rfl
theorem c9 {x0 x1 x2 : Value} {w : World} {r : Value × World} (h : s9 x0 x1 x2 w = some r) : C Try.prog 9 #[x0, x1, x2] w = some r :=
  C_ev follows_all drawLaw (by kernel_rfl) Try.func9 (by rfl) ((s9eq x0 x1 x2 w).trans (show s9raw x0 x1 x2 w = some r from (Ev.bind_mono fun (r263 : Value × World) => (Ev.bind_mono fun (r264 : Value × World) => (Ev.bind_mono fun (v265 : Value) => (Ev.bind_mono fun (v266 : Value) => (Ev.bind_mono fun (v267 : Value) => (Ev.bind_mono fun (r268 : Value × World) => (Ev.bind_mono fun (v269 : Value) => (Ev.bind_mono fun (v270 : Value) => (Ev.bind_mono fun (v271 : Value) => (condK_mono id (Ev.bind_mono fun (r272 : Value × World) => (Ev.bind_mono fun (r273 : Value × World) => (s9L0of))))))))))))) h))
theorem e9 {x0 x1 x2 : Value} {w : World} {Q : Value × World → Prop} (h : Brings (s9 x0 x1 x2 w) Q) : Brings (Xcall Try.prog (Value.func (Fn.func 9) #[] #[]) #[x0, x1, x2] w) Q :=
  h.call (Xcall_fn Try.func9 (by decide +kernel) (by rfl) _ _ _ w) fun _ h => c9 h

/-! lychgate/lychgatelaw09.RulesNone -/
noncomputable def s10 (x0 x1 : Value) (w : World) : Option (Value × World) :=
  (Xbox Try.prog 56 x0 w).bind fun r295 =>
  (Xbox Try.prog 37 x1 r295.2).bind fun r296 =>
  (QfieldAddr Try.prog 37 r296.1 0).bind fun v297 =>
  (Qload Try.prog 23 v297 r296.2).bind fun v298 =>
  (Xcall Try.prog (Value.func (Fn.func 18) #[] #[]) #[(Go.Value.pointer none), v298] r296.2).bind fun r299 =>
  (Qext r299.1 0).bind fun v300 =>
  (Qext r299.1 1).bind fun v301 =>
  (Xalloc Try.prog 26 r299.2).bind fun r302 =>
  (Xstore Try.prog 26 r302.1 v300 r302.2).bind fun r303 =>
  (QfieldAddr Try.prog 37 r296.1 1).bind fun v304 =>
  (Qload Try.prog 5 v304 r303.2).bind fun v305 =>
  (QfieldAddr Try.prog 37 r296.1 2).bind fun v306 =>
  (Qload Try.prog 23 v306 r303.2).bind fun v307 =>
  (QfieldAddr Try.prog 37 r296.1 3).bind fun v308 =>
  (Qload Try.prog 24 v308 r303.2).bind fun v309 =>
  (Xcall Try.prog (Value.func (Fn.func 19) #[] #[]) #[(Go.Value.pointer none), v305, v307, v309] r303.2).bind fun r310 =>
  (Qext r310.1 0).bind fun v311 =>
  (Qext r310.1 1).bind fun v312 =>
  (Xalloc Try.prog 26 r310.2).bind fun r313 =>
  (Xstore Try.prog 26 r313.1 v311 r313.2).bind fun r314 =>
  (Xcall Try.prog (Value.func (Fn.func 14) #[] #[]) #[] r314.2).bind fun r315 =>
  (guardQ r315.1 true (QfieldAddr Try.prog 56 r295.1 0)).bind fun v316 =>
  (guardQ r315.1 true (Qload Try.prog 26 v316 r315.2)).bind fun v317 =>
  (guardX r315.1 true r315.2 (Xcall Try.prog (Value.func (Fn.func 12) #[] #[]) #[(gv (isB r315.1 true) (Go.Value.pointer none)), v317] r315.2)).bind fun r318 =>
  (guardQ r315.1 true (Qbin Try.prog Go.BinOp.eql 29 r318.1 (Go.Value.int Go.IntKind.i64 1))).bind fun v319 =>
  (Qpick r315.1 v319 (Go.Value.bool false)).bind fun v320 =>
  (guardQ v320 true (QfieldAddr Try.prog 56 r295.1 2)).bind fun v321 =>
  (guardQ v320 true (Qload Try.prog 3 v321 r318.2)).bind fun v322 =>
  (guardX v320 true r318.2 (Xcall Try.prog (Value.func (Fn.func 20) #[] #[]) #[(gv (isB v320 true) (Go.Value.pointer none)), v322] r318.2)).bind fun r323 =>
  (guardQ v320 true (Qbin Try.prog Go.BinOp.eql 29 r323.1 (Go.Value.int Go.IntKind.i64 1))).bind fun v324 =>
  (Qpick v320 v324 (Go.Value.bool false)).bind fun v325 =>
  (guardX v325 true r323.2 (Xcall Try.prog (Value.func (Fn.func 16) #[] #[]) #[(gv (isB v325 true) (Go.Value.pointer none))] r323.2)).bind fun r326 =>
  (guardQ v325 true (Qlen Try.prog #[33] 3 #[r326.1] r326.2)).bind fun v327 =>
  (guardQ v325 true (Qbin Try.prog Go.BinOp.eql 3 v327 (Go.Value.int Go.IntKind.i64 0))).bind fun v328 =>
  (Qpick v325 v328 (Go.Value.bool false)).bind fun v329 =>
  (guardQ v329 true (Qload Try.prog 26 r302.1 r326.2)).bind fun v330 =>
  (guardQ v329 true (Qbuild Try.prog 26 #[] r326.2)).bind fun v331 =>
  (guardQ v329 true (Qbin Try.prog Go.BinOp.eql 26 v330 v331)).bind fun v332 =>
  (Qpick v329 v332 (Go.Value.bool false)).bind fun v333 =>
  (guardQ v333 true (Qun Go.UnOp.not (gv (isB v333 true) v301))).bind fun v334 =>
  (Qpick v333 v334 (Go.Value.bool false)).bind fun v335 =>
  (guardQ v335 true (Qload Try.prog 26 r313.1 r326.2)).bind fun v336 =>
  (guardQ v335 true (Qbuild Try.prog 26 #[] r326.2)).bind fun v337 =>
  (guardQ v335 true (Qbin Try.prog Go.BinOp.eql 26 v336 v337)).bind fun v338 =>
  (Qpick v335 v338 (Go.Value.bool false)).bind fun v339 =>
  (guardQ v339 true (Qun Go.UnOp.not (gv (isB v339 true) v312))).bind fun v340 =>
  (Qpick v339 v340 (Go.Value.bool false)).bind fun v341 =>
  (guardX v341 true r326.2 (Xcall Try.prog (Value.func (Fn.func 23) #[] #[]) #[(gv (isB v341 true) (Go.Value.pointer none))] r326.2)).bind fun r342 =>
  (guardQ v341 true (Qbin Try.prog Go.BinOp.eql 27 r342.1 (Go.Value.pointer none))).bind fun v343 =>
  (Qpick v341 v343 (Go.Value.bool false)).bind fun v344 =>
  some (v344, r342.2)
theorem s10eq (x0 x1 : Value) (w : World) : evK Try.prog 10 none (bodyOf Try.f10) none _ { tmps := (([x0, x1] : List Value) ++ List.replicate (72 - 2) undef).toArray, defers := [] } w (leaveK Try.prog Try.f10) = s10 x0 x1 w := by kernel_rfl
theorem c10 {x0 x1 : Value} {w : World} {r : Value × World} (h : s10 x0 x1 w = some r) : C Try.prog 10 #[x0, x1] w = some r :=
  C_ev follows_all drawLaw (by kernel_rfl) Try.func10 (by rfl) ((s10eq x0 x1 w).trans h)
theorem e10 {x0 x1 : Value} {w : World} {Q : Value × World → Prop} (h : Brings (s10 x0 x1 w) Q) : Brings (Xcall Try.prog (Value.func (Fn.func 10) #[] #[]) #[x0, x1] w) Q :=
  h.call (Xcall_fn Try.func10 (by decide +kernel) (by rfl) _ _ _ w) fun _ h => c10 h

/-! lychgate/rules.New -/
noncomputable def s11 (w : World) : Option (Value × World) :=
  (Qbuild Try.prog 60 #[] w).bind fun v345 =>
  (Xbox Try.prog 60 v345 w).bind fun r346 =>
  some (r346.1, r346.2)
theorem s11eq (w : World) : evK Try.prog 11 none (bodyOf Try.f11) none _ { tmps := (([] : List Value) ++ List.replicate (3 - 0) undef).toArray, defers := [] } w (leaveK Try.prog Try.f11) = s11  w := by kernel_rfl
theorem c11 {w : World} {r : Value × World} (h : s11  w = some r) : C Try.prog 11 #[] w = some r :=
  C_ev follows_all drawLaw (by kernel_rfl) Try.func11 (by rfl) ((s11eq  w).trans h)
theorem e11 {w : World} {Q : Value × World → Prop} (h : Brings (s11  w) Q) : Brings (Xcall Try.prog (Value.func (Fn.func 11) #[] #[]) #[] w) Q :=
  h.call (Xcall_fn Try.func11 (by decide +kernel) (by rfl) _ _ _ w) fun _ h => c11 h

/-! (*lychgate/rules.Rules).Add -/
noncomputable def s12 (x0 x1 : Value) (w : World) : Option (Value × World) :=
  (Xbox Try.prog 26 x1 w).bind fun r347 =>
  (Qbin Try.prog Go.BinOp.eql 27 x0 (Go.Value.pointer none)).bind fun v348 =>
  condK v348 (
    some ((Go.Value.int Go.IntKind.i64 1), r347.2)
  ) (
    (Qload Try.prog 26 r347.1 r347.2).bind fun v349 =>
    (Xcall Try.prog (Value.func (Fn.func 13) #[] #[]) #[v349] r347.2).bind fun r350 =>
    (Qun Go.UnOp.not r350.1).bind fun v351 =>
    condK v351 (
      some ((Go.Value.int Go.IntKind.i64 4), r350.2)
    ) (
      (Qnil x0).bind fun v352 =>
      (QfieldAddr Try.prog 60 v352 0).bind fun v353 =>
      (Qload Try.prog 33 v353 r350.2.drew).bind fun v354 =>
      (Qload Try.prog 26 r347.1 r350.2.drew).bind fun v355 =>
      (Xcall Try.prog (Value.func (Fn.func 26) #[] #[]) #[v354, v355] r350.2.drew).bind fun r356 =>
      chkK True (
        condK r356.1 (
          some ((Go.Value.int Go.IntKind.i64 10), r356.2)
        ) (
          (Qnil x0).bind fun v357 =>
          (QfieldAddr Try.prog 60 v357 0).bind fun v358 =>
          (Qload Try.prog 33 v358 r356.2).bind fun v359 =>
          (Qlen Try.prog #[33] 3 #[v359] r356.2).bind fun v360 =>
          (Qbin Try.prog Go.BinOp.geq 3 v360 (Go.Value.int Go.IntKind.i64 32)).bind fun v361 =>
          condK v361 (
            some ((Go.Value.int Go.IntKind.i64 9), r356.2)
          ) (
            (Qnil x0).bind fun v362 =>
            (QfieldAddr Try.prog 60 v362 0).bind fun v363 =>
            (Qload Try.prog 33 v363 r356.2.drew).bind fun v364 =>
            (Qload Try.prog 26 r347.1 r356.2.drew).bind fun v365 =>
            (XbuildSlice Try.prog 33 1 #[(0, v365)] r356.2.drew).bind fun r366 =>
            (Xbi Try.prog Go.Builtin.append #[33, 33] 33 #[v364, r366.1] r366.2).bind fun r367 =>
            (Qnil x0).bind fun v368 =>
            (QfieldAddr Try.prog 60 v368 0).bind fun v369 =>
            (Xstore Try.prog 33 v369 r367.1 r367.2).bind fun r370 =>
            chkK ((Qload Try.prog 33 v363 r356.2.drew = some v364 ∧ Qload Try.prog 33 v363 r366.2 = some v364) ∧ True) (
              some ((Go.Value.int Go.IntKind.i64 0), r370.2)
            )
          )
        )
      )
    )
  )
theorem s12eq (x0 x1 : Value) (w : World) : evK Try.prog 12 none (bodyOf Try.f12) none _ { tmps := (([x0, x1] : List Value) ++ List.replicate (36 - 2) undef).toArray, defers := [] } w (leaveK Try.prog Try.f12) = s12 x0 x1 w := by kernel_rfl
theorem c12 {x0 x1 : Value} {w : World} {r : Value × World} (h : s12 x0 x1 w = some r) : C Try.prog 12 #[x0, x1] w = some r :=
  C_ev follows_all drawLaw (by kernel_rfl) Try.func12 (by rfl) ((s12eq x0 x1 w).trans h)
theorem e12 {x0 x1 : Value} {w : World} {Q : Value × World → Prop} (h : Brings (s12 x0 x1 w) Q) : Brings (Xcall Try.prog (Value.func (Fn.func 12) #[] #[]) #[x0, x1] w) Q :=
  h.call (Xcall_fn Try.func12 (by decide +kernel) (by rfl) _ _ _ w) fun _ h => c12 h

/-! lychgate/rules.Right -/
noncomputable def s13 (x0 : Value) (w : World) : Option (Value × World) :=
  (Xbox Try.prog 26 x0 w).bind fun r371 =>
  (QfieldAddr Try.prog 26 r371.1 0).bind fun v372 =>
  (Qload Try.prog 22 v372 r371.2).bind fun v373 =>
  (Qbin Try.prog Go.BinOp.eql 22 v373 (Go.Value.int Go.IntKind.i64 1)).bind fun v374 =>
  condK v374 (
    (QfieldAddr Try.prog 26 r371.1 3).bind fun v375 =>
    (Qload Try.prog 3 v375 r371.2.drew).bind fun v376 =>
    (Qbin Try.prog Go.BinOp.geq 3 v376 (Go.Value.int Go.IntKind.i64 0)).bind fun v377 =>
    (guardQ v377 true (QfieldAddr Try.prog 26 r371.1 3)).bind fun v378 =>
    (guardQ v377 true (Qload Try.prog 3 v378 r371.2.drew)).bind fun v379 =>
    (guardQ v377 true (Qbin Try.prog Go.BinOp.leq 3 v379 (Go.Value.int Go.IntKind.i64 32))).bind fun v380 =>
    (Qpick v377 v380 (Go.Value.bool false)).bind fun v381 =>
    (guardQ v381 true (QfieldAddr Try.prog 26 r371.1 2)).bind fun v382 =>
    (guardQ v381 true (Qload Try.prog 23 v382 r371.2.drew)).bind fun v383 =>
    (guardQ v381 true (QfieldAddr Try.prog 26 r371.1 3)).bind fun v384 =>
    (guardQ v381 true (Qload Try.prog 3 v384 r371.2.drew)).bind fun v385 =>
    (guardX v381 true r371.2.drew (Xcall Try.prog (Value.func (Fn.func 27) #[] #[]) #[v385] r371.2.drew)).bind fun r386 =>
    (guardQ v381 true (Qbin Try.prog Go.BinOp.andNot 23 v383 r386.1)).bind fun v387 =>
    (guardQ v381 true (Qbin Try.prog Go.BinOp.eql 23 v387 (Go.Value.int Go.IntKind.u32 0))).bind fun v388 =>
    (Qpick v381 v388 (Go.Value.bool false)).bind fun v389 =>
    (guardQ v389 true (QfieldAddr Try.prog 26 r371.1 4)).bind fun v390 =>
    (guardQ v389 true (Qload Try.prog 23 v390 r386.2)).bind fun v391 =>
    (guardQ v389 true (Qbin Try.prog Go.BinOp.neq 23 v391 (Go.Value.int Go.IntKind.u32 0))).bind fun v392 =>
    (Qpick v389 v392 (Go.Value.bool false)).bind fun v393 =>
    (guardQ v393 true (Qload Try.prog 26 r371.1 r386.2)).bind fun v394 =>
    (guardQ v393 true (QfieldAddr Try.prog 26 r371.1 2)).bind fun v395 =>
    (guardQ v393 true (Qload Try.prog 23 v395 r386.2)).bind fun v396 =>
    (guardQ v393 true (QfieldAddr Try.prog 26 r371.1 3)).bind fun v397 =>
    (guardQ v393 true (Qload Try.prog 3 v397 r386.2)).bind fun v398 =>
    (guardQ v393 true (QfieldAddr Try.prog 26 r371.1 4)).bind fun v399 =>
    (guardQ v393 true (Qload Try.prog 23 v399 r386.2)).bind fun v400 =>
    (guardQ v393 true (Qbuild Try.prog 26 #[(0, (Go.Value.int Go.IntKind.i64 1)), (2, v396), (3, v398), (4, v400)] r386.2)).bind fun v401 =>
    (guardQ v393 true (Qbin Try.prog Go.BinOp.eql 26 v394 v401)).bind fun v402 =>
    (Qpick v393 v402 (Go.Value.bool false)).bind fun v403 =>
    chkK ((guardQ v381 true (Qload Try.prog 23 v382 r371.2.drew) = some v383 ∧ guardQ v381 true (Qload Try.prog 23 v382 r386.2) = some v383) ∧ True) (
      some (v403, r386.2)
    )
  ) (
    (Qbin Try.prog Go.BinOp.eql 22 v373 (Go.Value.int Go.IntKind.i64 2)).bind fun v404 =>
    condK v404 (
      (QfieldAddr Try.prog 26 r371.1 1).bind fun v405 =>
      (Qload Try.prog 5 v405 r371.2).bind fun v406 =>
      (Qbin Try.prog Go.BinOp.eql 5 v406 (Go.Value.int Go.IntKind.u8 6)).bind fun v407 =>
      (guardQ v407 false (QfieldAddr Try.prog 26 r371.1 1)).bind fun v408 =>
      (guardQ v407 false (Qload Try.prog 5 v408 r371.2)).bind fun v409 =>
      (guardQ v407 false (Qbin Try.prog Go.BinOp.eql 5 v409 (Go.Value.int Go.IntKind.u8 17))).bind fun v410 =>
      (Qpick v407 (Go.Value.bool true) v410).bind fun v411 =>
      (guardQ v411 true (QfieldAddr Try.prog 26 r371.1 4)).bind fun v412 =>
      (guardQ v411 true (Qload Try.prog 23 v412 r371.2)).bind fun v413 =>
      (guardQ v411 true (Qbin Try.prog Go.BinOp.neq 23 v413 (Go.Value.int Go.IntKind.u32 0))).bind fun v414 =>
      (Qpick v411 v414 (Go.Value.bool false)).bind fun v415 =>
      (guardQ v415 true (QfieldAddr Try.prog 26 r371.1 5)).bind fun v416 =>
      (guardQ v415 true (Qload Try.prog 24 v416 r371.2)).bind fun v417 =>
      (guardQ v415 true (Qbin Try.prog Go.BinOp.neq 24 v417 (Go.Value.int Go.IntKind.u16 0))).bind fun v418 =>
      (Qpick v415 v418 (Go.Value.bool false)).bind fun v419 =>
      (guardQ v419 true (QfieldAddr Try.prog 26 r371.1 6)).bind fun v420 =>
      (guardQ v419 true (Qload Try.prog 23 v420 r371.2)).bind fun v421 =>
      (guardQ v419 true (Qbin Try.prog Go.BinOp.neq 23 v421 (Go.Value.int Go.IntKind.u32 0))).bind fun v422 =>
      (Qpick v419 v422 (Go.Value.bool false)).bind fun v423 =>
      (guardQ v423 true (QfieldAddr Try.prog 26 r371.1 7)).bind fun v424 =>
      (guardQ v423 true (Qload Try.prog 24 v424 r371.2)).bind fun v425 =>
      (guardQ v423 true (Qbin Try.prog Go.BinOp.neq 24 v425 (Go.Value.int Go.IntKind.u16 0))).bind fun v426 =>
      (Qpick v423 v426 (Go.Value.bool false)).bind fun v427 =>
      (guardQ v427 true (QfieldAddr Try.prog 26 r371.1 2)).bind fun v428 =>
      (guardQ v427 true (Qload Try.prog 23 v428 r371.2)).bind fun v429 =>
      (guardQ v427 true (Qbin Try.prog Go.BinOp.eql 23 v429 (Go.Value.int Go.IntKind.u32 0))).bind fun v430 =>
      (Qpick v427 v430 (Go.Value.bool false)).bind fun v431 =>
      (guardQ v431 true (QfieldAddr Try.prog 26 r371.1 3)).bind fun v432 =>
      (guardQ v431 true (Qload Try.prog 3 v432 r371.2)).bind fun v433 =>
      (guardQ v431 true (Qbin Try.prog Go.BinOp.eql 3 v433 (Go.Value.int Go.IntKind.i64 0))).bind fun v434 =>
      (Qpick v431 v434 (Go.Value.bool false)).bind fun v435 =>
      some (v435, r371.2)
    ) (
      some ((Go.Value.bool false), r371.2)
    )
  )
theorem s13eq (x0 : Value) (w : World) : evK Try.prog 13 none (bodyOf Try.f13) none _ { tmps := (([x0] : List Value) ++ List.replicate (82 - 1) undef).toArray, defers := [] } w (leaveK Try.prog Try.f13) = s13 x0 w := by kernel_rfl
theorem c13 {x0 : Value} {w : World} {r : Value × World} (h : s13 x0 w = some r) : C Try.prog 13 #[x0] w = some r :=
  C_ev follows_all drawLaw (by kernel_rfl) Try.func13 (by rfl) ((s13eq x0 w).trans h)
theorem e13 {x0 : Value} {w : World} {Q : Value × World → Prop} (h : Brings (s13 x0 w) Q) : Brings (Xcall Try.prog (Value.func (Fn.func 13) #[] #[]) #[x0] w) Q :=
  h.call (Xcall_fn Try.func13 (by decide +kernel) (by rfl) _ _ _ w) fun _ h => c13 h

/-! lychgate/lychgatelaw09.live -/
noncomputable def s14 (w : World) : Option (Value × World) :=
  (Xcall Try.prog (Value.func (Fn.func 11) #[] #[]) #[] w).bind fun r436 =>
  (Qbuild Try.prog 26 #[(0, (Go.Value.int Go.IntKind.i64 1)), (2, (Go.Value.int Go.IntKind.u32 167772160)), (3, (Go.Value.int Go.IntKind.i64 8)), (4, (Go.Value.int Go.IntKind.u32 5))] r436.2).bind fun v437 =>
  (Xcall Try.prog (Value.func (Fn.func 12) #[] #[]) #[r436.1, v437] r436.2).bind fun r438 =>
  (Xcall Try.prog (Value.func (Fn.func 18) #[] #[]) #[r436.1, (Go.Value.int Go.IntKind.u32 167838211)] r438.2).bind fun r439 =>
  (Qext r439.1 0).bind fun v440 =>
  (Qext r439.1 1).bind fun v441 =>
  (Xalloc Try.prog 26 r439.2).bind fun r442 =>
  (Xstore Try.prog 26 r442.1 v440 r442.2).bind fun r443 =>
  (Xcall Try.prog (Value.func (Fn.func 18) #[] #[]) #[r436.1, (Go.Value.int Go.IntKind.u32 184615427)] r443.2).bind fun r444 =>
  (Qext r444.1 0).bind fun v445 =>
  (Qext r444.1 1).bind fun v446 =>
  (Xalloc Try.prog 26 r444.2).bind fun r447 =>
  (Xstore Try.prog 26 r447.1 v445 r447.2).bind fun r448 =>
  (Qbin Try.prog Go.BinOp.eql 29 r438.1 (Go.Value.int Go.IntKind.i64 0)).bind fun v449 =>
  (Qpick v449 (gv (isB v449 true) v441) (Go.Value.bool false)).bind fun v450 =>
  (guardQ v450 true (QfieldAddr Try.prog 26 r442.1 4)).bind fun v451 =>
  (guardQ v450 true (Qload Try.prog 23 v451 r448.2)).bind fun v452 =>
  (guardQ v450 true (Qbin Try.prog Go.BinOp.eql 23 v452 (Go.Value.int Go.IntKind.u32 5))).bind fun v453 =>
  (Qpick v450 v453 (Go.Value.bool false)).bind fun v454 =>
  (guardQ v454 true (Qun Go.UnOp.not (gv (isB v454 true) v446))).bind fun v455 =>
  (Qpick v454 v455 (Go.Value.bool false)).bind fun v456 =>
  some (v456, r448.2)
theorem s14eq (w : World) : evK Try.prog 14 none (bodyOf Try.f14) none _ { tmps := (([] : List Value) ++ List.replicate (35 - 0) undef).toArray, defers := [] } w (leaveK Try.prog Try.f14) = s14  w := by kernel_rfl
theorem c14 {w : World} {r : Value × World} (h : s14  w = some r) : C Try.prog 14 #[] w = some r :=
  C_ev follows_all drawLaw (by kernel_rfl) Try.func14 (by rfl) ((s14eq  w).trans h)
theorem e14 {w : World} {Q : Value × World → Prop} (h : Brings (s14  w) Q) : Brings (Xcall Try.prog (Value.func (Fn.func 14) #[] #[]) #[] w) Q :=
  h.call (Xcall_fn Try.func14 (by decide +kernel) (by rfl) _ _ _ w) fun _ h => c14 h

/-! lychgate/lychgateref09.Right -/
noncomputable def s15 (x0 : Value) (w : World) : Option (Value × World) :=
  (Xbox Try.prog 26 x0 w).bind fun r457 =>
  (QfieldAddr Try.prog 26 r457.1 0).bind fun v458 =>
  (Qload Try.prog 22 v458 r457.2).bind fun v459 =>
  (Qbin Try.prog Go.BinOp.eql 22 v459 (Go.Value.int Go.IntKind.i64 1)).bind fun v460 =>
  condK v460 (
    (QfieldAddr Try.prog 26 r457.1 3).bind fun v461 =>
    (Qload Try.prog 3 v461 r457.2.drew).bind fun v462 =>
    (Qbin Try.prog Go.BinOp.geq 3 v462 (Go.Value.int Go.IntKind.i64 0)).bind fun v463 =>
    (guardQ v463 true (QfieldAddr Try.prog 26 r457.1 3)).bind fun v464 =>
    (guardQ v463 true (Qload Try.prog 3 v464 r457.2.drew)).bind fun v465 =>
    (guardQ v463 true (Qbin Try.prog Go.BinOp.leq 3 v465 (Go.Value.int Go.IntKind.i64 32))).bind fun v466 =>
    (Qpick v463 v466 (Go.Value.bool false)).bind fun v467 =>
    (guardQ v467 true (QfieldAddr Try.prog 26 r457.1 2)).bind fun v468 =>
    (guardQ v467 true (Qload Try.prog 23 v468 r457.2.drew)).bind fun v469 =>
    (guardQ v467 true (QfieldAddr Try.prog 26 r457.1 3)).bind fun v470 =>
    (guardQ v467 true (Qload Try.prog 3 v470 r457.2.drew)).bind fun v471 =>
    (guardX v467 true r457.2.drew (Xcall Try.prog (Value.func (Fn.func 28) #[] #[]) #[v469, v471] r457.2.drew)).bind fun r472 =>
    (guardQ v467 true (QfieldAddr Try.prog 26 r457.1 2)).bind fun v473 =>
    (guardQ v467 true (Qload Try.prog 23 v473 r472.2)).bind fun v474 =>
    (guardQ v467 true (Qbin Try.prog Go.BinOp.eql 23 r472.1 v474)).bind fun v475 =>
    (Qpick v467 v475 (Go.Value.bool false)).bind fun v476 =>
    (guardQ v476 true (QfieldAddr Try.prog 26 r457.1 4)).bind fun v477 =>
    (guardQ v476 true (Qload Try.prog 23 v477 r472.2)).bind fun v478 =>
    (guardQ v476 true (Qbin Try.prog Go.BinOp.neq 23 v478 (Go.Value.int Go.IntKind.u32 0))).bind fun v479 =>
    (Qpick v476 v479 (Go.Value.bool false)).bind fun v480 =>
    (guardQ v480 true (QfieldAddr Try.prog 26 r457.1 1)).bind fun v481 =>
    (guardQ v480 true (Qload Try.prog 5 v481 r472.2)).bind fun v482 =>
    (guardQ v480 true (Qbin Try.prog Go.BinOp.eql 5 v482 (Go.Value.int Go.IntKind.u8 0))).bind fun v483 =>
    (Qpick v480 v483 (Go.Value.bool false)).bind fun v484 =>
    (guardQ v484 true (QfieldAddr Try.prog 26 r457.1 5)).bind fun v485 =>
    (guardQ v484 true (Qload Try.prog 24 v485 r472.2)).bind fun v486 =>
    (guardQ v484 true (Qbin Try.prog Go.BinOp.eql 24 v486 (Go.Value.int Go.IntKind.u16 0))).bind fun v487 =>
    (Qpick v484 v487 (Go.Value.bool false)).bind fun v488 =>
    (guardQ v488 true (QfieldAddr Try.prog 26 r457.1 6)).bind fun v489 =>
    (guardQ v488 true (Qload Try.prog 23 v489 r472.2)).bind fun v490 =>
    (guardQ v488 true (Qbin Try.prog Go.BinOp.eql 23 v490 (Go.Value.int Go.IntKind.u32 0))).bind fun v491 =>
    (Qpick v488 v491 (Go.Value.bool false)).bind fun v492 =>
    (guardQ v492 true (QfieldAddr Try.prog 26 r457.1 7)).bind fun v493 =>
    (guardQ v492 true (Qload Try.prog 24 v493 r472.2)).bind fun v494 =>
    (guardQ v492 true (Qbin Try.prog Go.BinOp.eql 24 v494 (Go.Value.int Go.IntKind.u16 0))).bind fun v495 =>
    (Qpick v492 v495 (Go.Value.bool false)).bind fun v496 =>
    chkK ((guardQ v467 true (Qload Try.prog 23 v473 r457.2.drew) = some v474 ∧ guardQ v467 true (Qload Try.prog 23 v473 r472.2) = some v474) ∧ True) (
      some (v496, r472.2)
    )
  ) (
    (Qbin Try.prog Go.BinOp.eql 22 v459 (Go.Value.int Go.IntKind.i64 2)).bind fun v497 =>
    condK v497 (
      (QfieldAddr Try.prog 26 r457.1 1).bind fun v498 =>
      (Qload Try.prog 5 v498 r457.2).bind fun v499 =>
      (Qbin Try.prog Go.BinOp.eql 5 v499 (Go.Value.int Go.IntKind.u8 6)).bind fun v500 =>
      (guardQ v500 false (QfieldAddr Try.prog 26 r457.1 1)).bind fun v501 =>
      (guardQ v500 false (Qload Try.prog 5 v501 r457.2)).bind fun v502 =>
      (guardQ v500 false (Qbin Try.prog Go.BinOp.eql 5 v502 (Go.Value.int Go.IntKind.u8 17))).bind fun v503 =>
      (Qpick v500 (Go.Value.bool true) v503).bind fun v504 =>
      (guardQ v504 true (QfieldAddr Try.prog 26 r457.1 4)).bind fun v505 =>
      (guardQ v504 true (Qload Try.prog 23 v505 r457.2)).bind fun v506 =>
      (guardQ v504 true (Qbin Try.prog Go.BinOp.neq 23 v506 (Go.Value.int Go.IntKind.u32 0))).bind fun v507 =>
      (Qpick v504 v507 (Go.Value.bool false)).bind fun v508 =>
      (guardQ v508 true (QfieldAddr Try.prog 26 r457.1 5)).bind fun v509 =>
      (guardQ v508 true (Qload Try.prog 24 v509 r457.2)).bind fun v510 =>
      (guardQ v508 true (Qbin Try.prog Go.BinOp.neq 24 v510 (Go.Value.int Go.IntKind.u16 0))).bind fun v511 =>
      (Qpick v508 v511 (Go.Value.bool false)).bind fun v512 =>
      (guardQ v512 true (QfieldAddr Try.prog 26 r457.1 6)).bind fun v513 =>
      (guardQ v512 true (Qload Try.prog 23 v513 r457.2)).bind fun v514 =>
      (guardQ v512 true (Qbin Try.prog Go.BinOp.neq 23 v514 (Go.Value.int Go.IntKind.u32 0))).bind fun v515 =>
      (Qpick v512 v515 (Go.Value.bool false)).bind fun v516 =>
      (guardQ v516 true (QfieldAddr Try.prog 26 r457.1 7)).bind fun v517 =>
      (guardQ v516 true (Qload Try.prog 24 v517 r457.2)).bind fun v518 =>
      (guardQ v516 true (Qbin Try.prog Go.BinOp.neq 24 v518 (Go.Value.int Go.IntKind.u16 0))).bind fun v519 =>
      (Qpick v516 v519 (Go.Value.bool false)).bind fun v520 =>
      (guardQ v520 true (QfieldAddr Try.prog 26 r457.1 2)).bind fun v521 =>
      (guardQ v520 true (Qload Try.prog 23 v521 r457.2)).bind fun v522 =>
      (guardQ v520 true (Qbin Try.prog Go.BinOp.eql 23 v522 (Go.Value.int Go.IntKind.u32 0))).bind fun v523 =>
      (Qpick v520 v523 (Go.Value.bool false)).bind fun v524 =>
      (guardQ v524 true (QfieldAddr Try.prog 26 r457.1 3)).bind fun v525 =>
      (guardQ v524 true (Qload Try.prog 3 v525 r457.2)).bind fun v526 =>
      (guardQ v524 true (Qbin Try.prog Go.BinOp.eql 3 v526 (Go.Value.int Go.IntKind.i64 0))).bind fun v527 =>
      (Qpick v524 v527 (Go.Value.bool false)).bind fun v528 =>
      some (v528, r457.2)
    ) (
      some ((Go.Value.bool false), r457.2)
    )
  )
theorem s15eq (x0 : Value) (w : World) : evK Try.prog 15 none (bodyOf Try.f15) none _ { tmps := (([x0] : List Value) ++ List.replicate (90 - 1) undef).toArray, defers := [] } w (leaveK Try.prog Try.f15) = s15 x0 w := by kernel_rfl
theorem c15 {x0 : Value} {w : World} {r : Value × World} (h : s15 x0 w = some r) : C Try.prog 15 #[x0] w = some r :=
  C_ev follows_all drawLaw (by kernel_rfl) Try.func15 (by rfl) ((s15eq x0 w).trans h)
theorem e15 {x0 : Value} {w : World} {Q : Value × World → Prop} (h : Brings (s15 x0 w) Q) : Brings (Xcall Try.prog (Value.func (Fn.func 15) #[] #[]) #[x0] w) Q :=
  h.call (Xcall_fn Try.func15 (by decide +kernel) (by rfl) _ _ _ w) fun _ h => c15 h

/-! (*lychgate/rules.Rules).List -/
noncomputable def s16 (x0 : Value) (w : World) : Option (Value × World) :=
  (Qbin Try.prog Go.BinOp.eql 27 x0 (Go.Value.pointer none)).bind fun v529 =>
  condK v529 (
    some ((Go.Value.slice none 0 0), w)
  ) (
    (Qnil x0).bind fun v530 =>
    (QfieldAddr Try.prog 60 v530 0).bind fun v531 =>
    (Qload Try.prog 33 v531 w).bind fun v532 =>
    (Xcall Try.prog (Value.func (Fn.func 29) #[] #[]) #[v532] w).bind fun r533 =>
    some (r533.1, r533.2)
  )
theorem s16eq (x0 : Value) (w : World) : evK Try.prog 16 none (bodyOf Try.f16) none _ { tmps := (([x0] : List Value) ++ List.replicate (10 - 1) undef).toArray, defers := [] } w (leaveK Try.prog Try.f16) = s16 x0 w := by kernel_rfl
theorem c16 {x0 : Value} {w : World} {r : Value × World} (h : s16 x0 w = some r) : C Try.prog 16 #[x0] w = some r :=
  C_ev follows_all drawLaw (by kernel_rfl) Try.func16 (by rfl) ((s16eq x0 w).trans h)
theorem e16 {x0 : Value} {w : World} {Q : Value × World → Prop} (h : Brings (s16 x0 w) Q) : Brings (Xcall Try.prog (Value.func (Fn.func 16) #[] #[]) #[x0] w) Q :=
  h.call (Xcall_fn Try.func16 (by decide +kernel) (by rfl) _ _ _ w) fun _ h => c16 h

/-! lychgate/lychgatelaw09.play -/
noncomputable def s17K0 : Exit → Act → World → Option (Value × World) := seqK (fun a w => evK Try.prog 17 none (nav [1, 1, 1] (bodyOf Try.f17)) none _ a w (leaveK Try.prog Try.f17)) (leaveK Try.prog Try.f17)
noncomputable def s17K1 : Exit → Act → World → Option (Value × World) := blockK 0 s17K0
noncomputable def s17L0 (s : List Value) (d : List Deferred) (w : World) : Option (Value × World) := loopN Try.prog 17 none (nav [1, 1, 0, 1, 0, 0] (bodyOf Try.f17)) s17K1 s d w
noncomputable def s17B0 : List Value → World → Option (Exit × List Value × World)
  | [x0, x2, x3, x4, x5, x6, x7], w =>
    (Qlen Try.prog #[35] 3 #[x0] w).bind fun v536 =>
    (Qbin Try.prog Go.BinOp.lss 3 x7 v536).bind fun v537 =>
    (guardQ v537 true (Qbin Try.prog Go.BinOp.lss 3 (gv (isB v537 true) x7) (Go.Value.int Go.IntKind.i64 60))).bind fun v538 =>
    (Qpick v537 v538 (Go.Value.bool false)).bind fun v539 =>
    condK v539 (
      (QindexAddr Try.prog 35 x0 x7 w).bind fun v540 =>
      (Qload Try.prog 56 v540 w).bind fun v541 =>
      (Xcall Try.prog (Value.func (Fn.func 25) #[] #[]) #[x5, x6, v541] w).bind fun r542 =>
      (Qun Go.UnOp.not r542.1).bind fun v543 =>
      condK v543 (
        some (Exit.ret, [x0, x5, x6, (Go.Value.bool false), x5, x6, x7], r542.2)
      ) (
        (Qbin Try.prog Go.BinOp.add 3 x7 (Go.Value.int Go.IntKind.i64 1)).bind fun v544 =>
        some (Exit.normal, [x0, x2, x3, x4, x5, x6, v544], r542.2)
      )
    ) (
      some ((Exit.exit 0), [x0, x2, x3, x4, x5, x6, x7], w)
    )
  | _, _ => none
noncomputable def s17R0 : Exit → List Value → World → Option (Value × World)
  | (Exit.exit 0), [_, _, _, _, x5, x6, _], w =>
    some ((Value.tuple #[x5, x6, (Go.Value.bool true)]), w)
  | Exit.ret, [_, x2, x3, x4, _, _, _], w =>
    some ((Value.tuple #[x2, x3, x4]), w)
  | _, _, _ => none
noncomputable def s17raw (x0 : Value) (w : World) : Option (Value × World) :=
  (Xcall Try.prog (Value.func (Fn.func 11) #[] #[]) #[] w).bind fun r534 =>
  (Xcall Try.prog (Value.func (Fn.func 30) #[] #[]) #[] r534.2).bind fun r535 =>
  s17L0 [x0, undef, (Go.Value.pointer none), (Go.Value.pointer none), (Go.Value.bool false), r534.1, r535.1, (Go.Value.int Go.IntKind.i64 0), r534.1, r535.1, undef, undef, undef, undef, undef, undef, undef, undef, undef, undef, undef, undef, undef, undef, undef, undef, undef, undef, undef, undef, undef, undef] [] r535.2
noncomputable def s17 (x0 : Value) (w : World) : Option (Value × World) :=
  (Xcall Try.prog (Value.func (Fn.func 11) #[] #[]) #[] w).bind fun r534 =>
  (Xcall Try.prog (Value.func (Fn.func 30) #[] #[]) #[] r534.2).bind fun r535 =>
  loopR s17B0 s17R0 [x0, (Go.Value.pointer none), (Go.Value.pointer none), (Go.Value.bool false), r534.1, r535.1, (Go.Value.int Go.IntKind.i64 0)] r535.2
theorem s17B0eq (x0 x2 x3 x4 x5 x6 x7 : Value) (w : World) (g : Nat → Value) (d : List Deferred) : evK Try.prog 17 none (nav [1, 1, 0, 1, 0, 0] (bodyOf Try.f17)) none _ (frm 32 (setL [0, 2, 3, 4, 5, 6, 7] [x0, x2, x3, x4, x5, x6, x7] g) d) w (projK [0, 2, 3, 4, 5, 6, 7]) = s17B0 [x0, x2, x3, x4, x5, x6, x7] w := by kernel_rfl
theorem s17R0x0eq (x0 x2 x3 x4 x5 x6 x7 : Value) (g : Nat → Value) (w : World) : s17K1 (Exit.exit 0) (frm 32 (setL [0, 2, 3, 4, 5, 6, 7] [x0, x2, x3, x4, x5, x6, x7] g) []) w = s17R0 (Exit.exit 0) [x0, x2, x3, x4, x5, x6, x7] w := by kernel_rfl
theorem s17R0ret_eq (x0 x2 x3 x4 x5 x6 x7 : Value) (g : Nat → Value) (w : World) : s17K1 Exit.ret (frm 32 (setL [0, 2, 3, 4, 5, 6, 7] [x0, x2, x3, x4, x5, x6, x7] g) []) w = s17R0 Exit.ret [x0, x2, x3, x4, x5, x6, x7] w := by kernel_rfl
theorem s17R0of : ∀ (e : Exit) (xs : List Value) (w : World) (g : Nat → Value) (y : _), s17R0 e xs w = some y → s17K1 e (frm 32 (setL [0, 2, 3, 4, 5, 6, 7] xs g) []) w = some y := by
  intro e xs w g y h
  unfold s17R0 at h
  split at h
  · exact (s17R0x0eq _ _ _ _ _ _ _ g _).trans h
  · exact (s17R0ret_eq _ _ _ _ _ _ _ g _).trans h
  · cases h
theorem s17L0of {s0 s1 s2 s3 s4 s5 s6 s7 s8 s9 s10 s11 s12 s13 s14 s15 s16 s17 s18 s19 s20 s21 s22 s23 s24 s25 s26 s27 s28 s29 s30 s31 : Value} {w : World} {r : _} (h : loopR s17B0 s17R0 [s0, s2, s3, s4, s5, s6, s7] w = some r) : s17L0 [s0, s1, s2, s3, s4, s5, s6, s7, s8, s9, s10, s11, s12, s13, s14, s15, s16, s17, s18, s19, s20, s21, s22, s23, s24, s25, s26, s27, s28, s29, s30, s31] [] w = some r :=
  loopN_of (B := s17B0) (R := s17R0) (n := 32) (live := [0, 2, 3, 4, 5, 6, 7]) (fun xs w g y hl h => match xs, hl, h with | [x0, x2, x3, x4, x5, x6, x7], _, h => (s17B0eq x0 x2 x3 x4 x5 x6 x7 w g []).trans h) (by kernel_rfl) (s17R0of) (fun i => ([s0, s1, s2, s3, s4, s5, s6, s7, s8, s9, s10, s11, s12, s13, s14, s15, s16, s17, s18, s19, s20, s21, s22, s23, s24, s25, s26, s27, s28, s29, s30, s31] : List Value).getD i undef) (by kernel_rfl) rfl h
theorem s17eq (x0 : Value) (w : World) : evK Try.prog 17 none (bodyOf Try.f17) none _ { tmps := (([x0] : List Value) ++ List.replicate (32 - 1) undef).toArray, defers := [] } w (leaveK Try.prog Try.f17) = s17raw x0 w := by kernel_rfl
theorem c17 {x0 : Value} {w : World} {r : Value × World} (h : s17 x0 w = some r) : C Try.prog 17 #[x0] w = some r :=
  C_ev follows_all drawLaw (by kernel_rfl) Try.func17 (by rfl) ((s17eq x0 w).trans (show s17raw x0 w = some r from (Ev.bind_mono fun (r534 : Value × World) => (Ev.bind_mono fun (r535 : Value × World) => (s17L0of))) h))
theorem e17 {x0 : Value} {w : World} {Q : Value × World → Prop} (h : Brings (s17 x0 w) Q) : Brings (Xcall Try.prog (Value.func (Fn.func 17) #[] #[]) #[x0] w) Q :=
  h.call (Xcall_fn Try.func17 (by decide +kernel) (by rfl) _ _ _ w) fun _ h => c17 h

/-! (*lychgate/rules.Rules).Masq -/
noncomputable def s18 (x0 x1 : Value) (w : World) : Option (Value × World) :=
  (Xbox Try.prog 23 x1 w).bind fun r545 =>
  (Xalloc Try.prog 26 r545.2).bind fun r546 =>
  (Xcall Try.prog (Value.func (Fn.func 32) #[] #[]) #[x0, (Go.Value.int Go.IntKind.i64 1)] r546.2).bind fun r547 =>
  (some (Value.func (Go.Fn.func 33) #[] #[r545.1])).bind fun v548 =>
  (Xcall Try.prog (Value.func (Fn.func 31) #[] #[]) #[r547.1, v548] r547.2).bind fun r549 =>
  (Qext r549.1 0).bind fun v550 =>
  (Qext r549.1 1).bind fun v551 =>
  (Xstore Try.prog 26 r546.1 v550 r549.2).bind fun r552 =>
  ((((Qload Try.prog 26 r546.1 r552.2).bind fun v => ((((some [])).map fun vs => v551 :: vs)).map fun vs => v :: vs)).map oneOf).map fun v => (v, r552.2)
theorem s18eq (x0 x1 : Value) (w : World) : evK Try.prog 18 none (bodyOf Try.f18) none _ { tmps := (([x0, x1] : List Value) ++ List.replicate (12 - 2) undef).toArray, defers := [] } w (leaveK Try.prog Try.f18) = s18 x0 x1 w := by kernel_rfl
theorem c18 {x0 x1 : Value} {w : World} {r : Value × World} (h : s18 x0 x1 w = some r) : C Try.prog 18 #[x0, x1] w = some r :=
  C_ev follows_all drawLaw (by kernel_rfl) Try.func18 (by rfl) ((s18eq x0 x1 w).trans h)
theorem e18 {x0 x1 : Value} {w : World} {Q : Value × World → Prop} (h : Brings (s18 x0 x1 w) Q) : Brings (Xcall Try.prog (Value.func (Fn.func 18) #[] #[]) #[x0, x1] w) Q :=
  h.call (Xcall_fn Try.func18 (by decide +kernel) (by rfl) _ _ _ w) fun _ h => c18 h

/-! (*lychgate/rules.Rules).Dnat -/
noncomputable def s19 (x0 x1 x2 x3 : Value) (w : World) : Option (Value × World) :=
  (Xbox Try.prog 5 x1 w).bind fun r553 =>
  (Xbox Try.prog 23 x2 r553.2).bind fun r554 =>
  (Xbox Try.prog 24 x3 r554.2).bind fun r555 =>
  (Xalloc Try.prog 26 r555.2).bind fun r556 =>
  (Xcall Try.prog (Value.func (Fn.func 32) #[] #[]) #[x0, (Go.Value.int Go.IntKind.i64 2)] r556.2).bind fun r557 =>
  (some (Value.func (Go.Fn.func 34) #[] #[r553.1, r554.1, r555.1])).bind fun v558 =>
  (Xcall Try.prog (Value.func (Fn.func 31) #[] #[]) #[r557.1, v558] r557.2).bind fun r559 =>
  (Qext r559.1 0).bind fun v560 =>
  (Qext r559.1 1).bind fun v561 =>
  (Xstore Try.prog 26 r556.1 v560 r559.2).bind fun r562 =>
  ((((Qload Try.prog 26 r556.1 r562.2).bind fun v => ((((some [])).map fun vs => v561 :: vs)).map fun vs => v :: vs)).map oneOf).map fun v => (v, r562.2)
theorem s19eq (x0 x1 x2 x3 : Value) (w : World) : evK Try.prog 19 none (bodyOf Try.f19) none _ { tmps := (([x0, x1, x2, x3] : List Value) ++ List.replicate (16 - 4) undef).toArray, defers := [] } w (leaveK Try.prog Try.f19) = s19 x0 x1 x2 x3 w := by kernel_rfl
theorem c19 {x0 x1 x2 x3 : Value} {w : World} {r : Value × World} (h : s19 x0 x1 x2 x3 w = some r) : C Try.prog 19 #[x0, x1, x2, x3] w = some r :=
  C_ev follows_all drawLaw (by kernel_rfl) Try.func19 (by rfl) ((s19eq x0 x1 x2 x3 w).trans h)
theorem e19 {x0 x1 x2 x3 : Value} {w : World} {Q : Value × World → Prop} (h : Brings (s19 x0 x1 x2 x3 w) Q) : Brings (Xcall Try.prog (Value.func (Fn.func 19) #[] #[]) #[x0, x1, x2, x3] w) Q :=
  h.call (Xcall_fn Try.func19 (by decide +kernel) (by rfl) _ _ _ w) fun _ h => c19 h

/-! (*lychgate/rules.Rules).Drop -/
noncomputable def s20 (x0 x1 : Value) (w : World) : Option (Value × World) :=
  (Qbin Try.prog Go.BinOp.eql 27 x0 (Go.Value.pointer none)).bind fun v563 =>
  condK v563 (
    some ((Go.Value.int Go.IntKind.i64 1), w)
  ) (
    (Qbin Try.prog Go.BinOp.lss 3 x1 (Go.Value.int Go.IntKind.i64 0)).bind fun v564 =>
    (guardQ v564 false (Qnil (gv (isB v564 false) x0))).bind fun v565 =>
    (guardQ v564 false (QfieldAddr Try.prog 60 v565 0)).bind fun v566 =>
    (guardQ v564 false (Qload Try.prog 33 v566 w)).bind fun v567 =>
    (guardQ v564 false (Qlen Try.prog #[33] 3 #[v567] w)).bind fun v568 =>
    (guardQ v564 false (Qbin Try.prog Go.BinOp.geq 3 (gv (isB v564 false) x1) v568)).bind fun v569 =>
    (Qpick v564 (Go.Value.bool true) v569).bind fun v570 =>
    condK v570 (
      some ((Go.Value.int Go.IntKind.i64 11), w)
    ) (
      (Qnil x0).bind fun v571 =>
      (QfieldAddr Try.prog 60 v571 0).bind fun v572 =>
      (Qload Try.prog 33 v572 w).bind fun v573 =>
      (Qbin Try.prog Go.BinOp.add 3 x1 (Go.Value.int Go.IntKind.i64 1)).bind fun v574 =>
      (Xcall Try.prog (Value.func (Fn.func 35) #[] #[]) #[v573, x1, v574] w).bind fun r575 =>
      (Qnil x0).bind fun v576 =>
      (QfieldAddr Try.prog 60 v576 0).bind fun v577 =>
      (Xstore Try.prog 33 v577 r575.1 r575.2).bind fun r578 =>
      some ((Go.Value.int Go.IntKind.i64 0), r578.2)
    )
  )
theorem s20eq (x0 x1 : Value) (w : World) : evK Try.prog 20 none (bodyOf Try.f20) none _ { tmps := (([x0, x1] : List Value) ++ List.replicate (31 - 2) undef).toArray, defers := [] } w (leaveK Try.prog Try.f20) = s20 x0 x1 w := by kernel_rfl
theorem c20 {x0 x1 : Value} {w : World} {r : Value × World} (h : s20 x0 x1 w = some r) : C Try.prog 20 #[x0, x1] w = some r :=
  C_ev follows_all drawLaw (by kernel_rfl) Try.func20 (by rfl) ((s20eq x0 x1 w).trans h)
theorem e20 {x0 x1 : Value} {w : World} {Q : Value × World → Prop} (h : Brings (s20 x0 x1 w) Q) : Brings (Xcall Try.prog (Value.func (Fn.func 20) #[] #[]) #[x0, x1] w) Q :=
  h.call (Xcall_fn Try.func20 (by decide +kernel) (by rfl) _ _ _ w) fun _ h => c20 h

/-! lychgate/lychgateref09.SameRules -/
noncomputable def s21K0 : Exit → Act → World → Option (Value × World) := seqK (fun a w => evK Try.prog 21 none (nav [1, 1, 1] (bodyOf Try.f21)) none _ a w (leaveK Try.prog Try.f21)) (leaveK Try.prog Try.f21)
noncomputable def s21K1 : Exit → Act → World → Option (Value × World) := blockK 0 s21K0
noncomputable def s21L0 (s : List Value) (d : List Deferred) (w : World) : Option (Value × World) := loopN Try.prog 21 none (nav [1, 1, 0, 1, 0, 0] (bodyOf Try.f21)) s21K1 s d w
noncomputable def s21B0 : List Value → World → Option (Exit × List Value × World)
  | [x0, x1, x4, x5], w =>
    (Qlen Try.prog #[33] 3 #[x0] w).bind fun v582 =>
    (Qbin Try.prog Go.BinOp.lss 3 x5 v582).bind fun v583 =>
    condK v583 (
      (QindexAddr Try.prog 33 x0 x5 w.drew).bind fun v584 =>
      (Qload Try.prog 26 v584 w.drew).bind fun v585 =>
      (QindexAddr Try.prog 33 x1 x5 w.drew).bind fun v586 =>
      (Qload Try.prog 26 v586 w.drew).bind fun v587 =>
      (Qbin Try.prog Go.BinOp.neq 26 v585 v587).bind fun v588 =>
      chkK True (
        condK v588 (
          some (Exit.ret, [x0, x1, (Go.Value.bool false), x5], w.drew)
        ) (
          (Qbin Try.prog Go.BinOp.add 3 x5 (Go.Value.int Go.IntKind.i64 1)).bind fun v589 =>
          some (Exit.normal, [x0, x1, x4, v589], w.drew)
        )
      )
    ) (
      some ((Exit.exit 0), [x0, x1, x4, x5], w)
    )
  | _, _ => none
noncomputable def s21R0 : Exit → List Value → World → Option (Value × World)
  | (Exit.exit 0), [_, _, _, _], w =>
    some ((Go.Value.bool true), w)
  | Exit.ret, [_, _, x4, _], w =>
    some (x4, w)
  | _, _, _ => none
noncomputable def s21raw (x0 x1 : Value) (w : World) : Option (Value × World) :=
  (Qlen Try.prog #[33] 3 #[x0] w).bind fun v579 =>
  (Qlen Try.prog #[33] 3 #[x1] w).bind fun v580 =>
  (Qbin Try.prog Go.BinOp.neq 3 v579 v580).bind fun v581 =>
  condK v581 (
    some ((Go.Value.bool false), w)
  ) (
    s21L0 [x0, x1, undef, undef, (Go.Value.bool false), (Go.Value.int Go.IntKind.i64 0), x0, v579, x1, v580, v581, undef, undef, undef, undef, undef, undef, undef, undef, undef, undef, undef, undef, undef, undef, undef] [] w
  )
noncomputable def s21 (x0 x1 : Value) (w : World) : Option (Value × World) :=
  (Qlen Try.prog #[33] 3 #[x0] w).bind fun v579 =>
  (Qlen Try.prog #[33] 3 #[x1] w).bind fun v580 =>
  (Qbin Try.prog Go.BinOp.neq 3 v579 v580).bind fun v581 =>
  condK v581 (
    some ((Go.Value.bool false), w)
  ) (
    loopR s21B0 s21R0 [x0, x1, (Go.Value.bool false), (Go.Value.int Go.IntKind.i64 0)] w
  )
theorem s21B0eq (x0 x1 x4 x5 : Value) (w : World) (g : Nat → Value) (d : List Deferred) : evK Try.prog 21 none (nav [1, 1, 0, 1, 0, 0] (bodyOf Try.f21)) none _ (frm 26 (setL [0, 1, 4, 5] [x0, x1, x4, x5] g) d) w (projK [0, 1, 4, 5]) = s21B0 [x0, x1, x4, x5] w := by kernel_rfl
theorem s21R0x0eq (x0 x1 x4 x5 : Value) (g : Nat → Value) (w : World) : s21K1 (Exit.exit 0) (frm 26 (setL [0, 1, 4, 5] [x0, x1, x4, x5] g) []) w = s21R0 (Exit.exit 0) [x0, x1, x4, x5] w := by kernel_rfl
theorem s21R0ret_eq (x0 x1 x4 x5 : Value) (g : Nat → Value) (w : World) : s21K1 Exit.ret (frm 26 (setL [0, 1, 4, 5] [x0, x1, x4, x5] g) []) w = s21R0 Exit.ret [x0, x1, x4, x5] w := by kernel_rfl
theorem s21R0of : ∀ (e : Exit) (xs : List Value) (w : World) (g : Nat → Value) (y : _), s21R0 e xs w = some y → s21K1 e (frm 26 (setL [0, 1, 4, 5] xs g) []) w = some y := by
  intro e xs w g y h
  unfold s21R0 at h
  split at h
  · exact (s21R0x0eq _ _ _ _ g _).trans h
  · exact (s21R0ret_eq _ _ _ _ g _).trans h
  · cases h
theorem s21L0of {s0 s1 s2 s3 s4 s5 s6 s7 s8 s9 s10 s11 s12 s13 s14 s15 s16 s17 s18 s19 s20 s21 s22 s23 s24 s25 : Value} {w : World} {r : _} (h : loopR s21B0 s21R0 [s0, s1, s4, s5] w = some r) : s21L0 [s0, s1, s2, s3, s4, s5, s6, s7, s8, s9, s10, s11, s12, s13, s14, s15, s16, s17, s18, s19, s20, s21, s22, s23, s24, s25] [] w = some r :=
  loopN_of (B := s21B0) (R := s21R0) (n := 26) (live := [0, 1, 4, 5]) (fun xs w g y hl h => match xs, hl, h with | [x0, x1, x4, x5], _, h => (s21B0eq x0 x1 x4 x5 w g []).trans h) (by kernel_rfl) (s21R0of) (fun i => ([s0, s1, s2, s3, s4, s5, s6, s7, s8, s9, s10, s11, s12, s13, s14, s15, s16, s17, s18, s19, s20, s21, s22, s23, s24, s25] : List Value).getD i undef) (by kernel_rfl) rfl h
theorem s21eq (x0 x1 : Value) (w : World) : evK Try.prog 21 none (bodyOf Try.f21) none _ { tmps := (([x0, x1] : List Value) ++ List.replicate (26 - 2) undef).toArray, defers := [] } w (leaveK Try.prog Try.f21) = s21raw x0 x1 w := by kernel_rfl
theorem c21 {x0 x1 : Value} {w : World} {r : Value × World} (h : s21 x0 x1 w = some r) : C Try.prog 21 #[x0, x1] w = some r :=
  C_ev follows_all drawLaw (by kernel_rfl) Try.func21 (by rfl) ((s21eq x0 x1 w).trans (show s21raw x0 x1 w = some r from (Ev.bind_mono fun (v579 : Value) => (Ev.bind_mono fun (v580 : Value) => (Ev.bind_mono fun (v581 : Value) => (condK_mono id (s21L0of))))) h))
theorem e21 {x0 x1 : Value} {w : World} {Q : Value × World → Prop} (h : Brings (s21 x0 x1 w) Q) : Brings (Xcall Try.prog (Value.func (Fn.func 21) #[] #[]) #[x0, x1] w) Q :=
  h.call (Xcall_fn Try.func21 (by decide +kernel) (by rfl) _ _ _ w) fun _ h => c21 h

/-! lychgate/lychgatelaw09.same -/
noncomputable def s22 (x0 x1 x2 : Value) (w : World) : Option (Value × World) :=
  (Xbox Try.prog 37 x2 w).bind fun r590 =>
  (QfieldAddr Try.prog 37 r590.1 0).bind fun v591 =>
  (Qload Try.prog 23 v591 r590.2).bind fun v592 =>
  (Xcall Try.prog (Value.func (Fn.func 18) #[] #[]) #[x0, v592] r590.2).bind fun r593 =>
  (Qext r593.1 0).bind fun v594 =>
  (Qext r593.1 1).bind fun v595 =>
  (Xalloc Try.prog 26 r593.2).bind fun r596 =>
  (Xstore Try.prog 26 r596.1 v594 r596.2).bind fun r597 =>
  (QfieldAddr Try.prog 37 r590.1 0).bind fun v598 =>
  (Qload Try.prog 23 v598 r597.2).bind fun v599 =>
  (Xcall Try.prog (Value.func (Fn.func 36) #[] #[]) #[x1, v599] r597.2).bind fun r600 =>
  (Qext r600.1 0).bind fun v601 =>
  (Qext r600.1 1).bind fun v602 =>
  (Xalloc Try.prog 26 r600.2).bind fun r603 =>
  (Xstore Try.prog 26 r603.1 v601 r603.2).bind fun r604 =>
  (QfieldAddr Try.prog 37 r590.1 1).bind fun v605 =>
  (Qload Try.prog 5 v605 r604.2).bind fun v606 =>
  (QfieldAddr Try.prog 37 r590.1 2).bind fun v607 =>
  (Qload Try.prog 23 v607 r604.2).bind fun v608 =>
  (QfieldAddr Try.prog 37 r590.1 3).bind fun v609 =>
  (Qload Try.prog 24 v609 r604.2).bind fun v610 =>
  (Xcall Try.prog (Value.func (Fn.func 19) #[] #[]) #[x0, v606, v608, v610] r604.2).bind fun r611 =>
  (Qext r611.1 0).bind fun v612 =>
  (Qext r611.1 1).bind fun v613 =>
  (Xalloc Try.prog 26 r611.2).bind fun r614 =>
  (Xstore Try.prog 26 r614.1 v612 r614.2).bind fun r615 =>
  (QfieldAddr Try.prog 37 r590.1 1).bind fun v616 =>
  (Qload Try.prog 5 v616 r615.2).bind fun v617 =>
  (QfieldAddr Try.prog 37 r590.1 2).bind fun v618 =>
  (Qload Try.prog 23 v618 r615.2).bind fun v619 =>
  (QfieldAddr Try.prog 37 r590.1 3).bind fun v620 =>
  (Qload Try.prog 24 v620 r615.2).bind fun v621 =>
  (Xcall Try.prog (Value.func (Fn.func 37) #[] #[]) #[x1, v617, v619, v621] r615.2).bind fun r622 =>
  (Qext r622.1 0).bind fun v623 =>
  (Qext r622.1 1).bind fun v624 =>
  (Xalloc Try.prog 26 r622.2).bind fun r625 =>
  (Xstore Try.prog 26 r625.1 v623 r625.2).bind fun r626 =>
  (Qload Try.prog 26 r596.1 r626.2).bind fun v627 =>
  (Qload Try.prog 26 r603.1 r626.2).bind fun v628 =>
  (Qbin Try.prog Go.BinOp.eql 26 v627 v628).bind fun v629 =>
  (guardQ v629 true (Qbin Try.prog Go.BinOp.eql 4 (gv (isB v629 true) v595) (gv (isB v629 true) v602))).bind fun v630 =>
  (Qpick v629 v630 (Go.Value.bool false)).bind fun v631 =>
  (guardQ v631 true (Qload Try.prog 26 r614.1 r626.2)).bind fun v632 =>
  (guardQ v631 true (Qload Try.prog 26 r625.1 r626.2)).bind fun v633 =>
  (guardQ v631 true (Qbin Try.prog Go.BinOp.eql 26 v632 v633)).bind fun v634 =>
  (Qpick v631 v634 (Go.Value.bool false)).bind fun v635 =>
  (guardQ v635 true (Qbin Try.prog Go.BinOp.eql 4 (gv (isB v635 true) v613) (gv (isB v635 true) v624))).bind fun v636 =>
  (Qpick v635 v636 (Go.Value.bool false)).bind fun v637 =>
  (guardX v637 true r626.2 (Xcall Try.prog (Value.func (Fn.func 16) #[] #[]) #[(gv (isB v637 true) x0)] r626.2)).bind fun r638 =>
  (guardX v637 true r638.2 (Xcall Try.prog (Value.func (Fn.func 38) #[] #[]) #[(gv (isB v637 true) x1)] r638.2)).bind fun r639 =>
  (guardX v637 true r639.2 (Xcall Try.prog (Value.func (Fn.func 21) #[] #[]) #[r638.1, r639.1] r639.2)).bind fun r640 =>
  (Qpick v637 r640.1 (Go.Value.bool false)).bind fun v641 =>
  some (v641, r640.2)
theorem s22eq (x0 x1 x2 : Value) (w : World) : evK Try.prog 22 none (bodyOf Try.f22) none _ { tmps := (([x0, x1, x2] : List Value) ++ List.replicate (76 - 3) undef).toArray, defers := [] } w (leaveK Try.prog Try.f22) = s22 x0 x1 x2 w := by kernel_rfl
theorem c22 {x0 x1 x2 : Value} {w : World} {r : Value × World} (h : s22 x0 x1 x2 w = some r) : C Try.prog 22 #[x0, x1, x2] w = some r :=
  C_ev follows_all drawLaw (by kernel_rfl) Try.func22 (by rfl) ((s22eq x0 x1 x2 w).trans h)
theorem e22 {x0 x1 x2 : Value} {w : World} {Q : Value × World → Prop} (h : Brings (s22 x0 x1 x2 w) Q) : Brings (Xcall Try.prog (Value.func (Fn.func 22) #[] #[]) #[x0, x1, x2] w) Q :=
  h.call (Xcall_fn Try.func22 (by decide +kernel) (by rfl) _ _ _ w) fun _ h => c22 h

/-! (*lychgate/rules.Rules).Fork -/
noncomputable def s23 (x0 : Value) (w : World) : Option (Value × World) :=
  (Qbin Try.prog Go.BinOp.eql 27 x0 (Go.Value.pointer none)).bind fun v642 =>
  condK v642 (
    some ((Go.Value.pointer none), w)
  ) (
    (Qnil x0).bind fun v643 =>
    (QfieldAddr Try.prog 60 v643 0).bind fun v644 =>
    (Qload Try.prog 33 v644 w).bind fun v645 =>
    (Xcall Try.prog (Value.func (Fn.func 29) #[] #[]) #[v645] w).bind fun r646 =>
    (Qbuild Try.prog 60 #[(0, r646.1)] r646.2).bind fun v647 =>
    (Xbox Try.prog 60 v647 r646.2).bind fun r648 =>
    some (r648.1, r648.2)
  )
theorem s23eq (x0 : Value) (w : World) : evK Try.prog 23 none (bodyOf Try.f23) none _ { tmps := (([x0] : List Value) ++ List.replicate (12 - 1) undef).toArray, defers := [] } w (leaveK Try.prog Try.f23) = s23 x0 w := by kernel_rfl
theorem c23 {x0 : Value} {w : World} {r : Value × World} (h : s23 x0 w = some r) : C Try.prog 23 #[x0] w = some r :=
  C_ev follows_all drawLaw (by kernel_rfl) Try.func23 (by rfl) ((s23eq x0 w).trans h)
theorem e23 {x0 : Value} {w : World} {Q : Value × World → Prop} (h : Brings (s23 x0 w) Q) : Brings (Xcall Try.prog (Value.func (Fn.func 23) #[] #[]) #[x0] w) Q :=
  h.call (Xcall_fn Try.func23 (by decide +kernel) (by rfl) _ _ _ w) fun _ h => c23 h

/-! (*lychgate/lychgateref09.Rules).Fork -/
noncomputable def s24 (x0 : Value) (w : World) : Option (Value × World) :=
  (Qbin Try.prog Go.BinOp.eql 38 x0 (Go.Value.pointer none)).bind fun v649 =>
  condK v649 (
    some ((Go.Value.pointer none), w)
  ) (
    (XbuildSlice Try.prog 33 0 #[] w).bind fun r650 =>
    (Qnil x0).bind fun v651 =>
    (QfieldAddr Try.prog 71 v651 0).bind fun v652 =>
    (Qload Try.prog 33 v652 r650.2).bind fun v653 =>
    (Xbi Try.prog Go.Builtin.append #[33, 33] 33 #[r650.1, v653] r650.2).bind fun r654 =>
    (Qbuild Try.prog 71 #[(0, r654.1)] r654.2).bind fun v655 =>
    (Xbox Try.prog 71 v655 r654.2).bind fun r656 =>
    some (r656.1, r656.2)
  )
theorem s24eq (x0 : Value) (w : World) : evK Try.prog 24 none (bodyOf Try.f24) none _ { tmps := (([x0] : List Value) ++ List.replicate (13 - 1) undef).toArray, defers := [] } w (leaveK Try.prog Try.f24) = s24 x0 w := by kernel_rfl
theorem c24 {x0 : Value} {w : World} {r : Value × World} (h : s24 x0 w = some r) : C Try.prog 24 #[x0] w = some r :=
  C_ev follows_all drawLaw (by kernel_rfl) Try.func24 (by rfl) ((s24eq x0 w).trans h)
theorem e24 {x0 : Value} {w : World} {Q : Value × World → Prop} (h : Brings (s24 x0 w) Q) : Brings (Xcall Try.prog (Value.func (Fn.func 24) #[] #[]) #[x0] w) Q :=
  h.call (Xcall_fn Try.func24 (by decide +kernel) (by rfl) _ _ _ w) fun _ h => c24 h

/-! lychgate/lychgatelaw09.do -/
noncomputable def s25 (x0 x1 x2 : Value) (w : World) : Option (Value × World) :=
  (Xbox Try.prog 56 x2 w).bind fun r657 =>
  (QfieldAddr Try.prog 56 r657.1 1).bind fun v658 =>
  (Qload Try.prog 4 v658 r657.2).bind fun v659 =>
  condK v659 (
    (QfieldAddr Try.prog 56 r657.1 2).bind fun v660 =>
    (Qload Try.prog 3 v660 r657.2.drew).bind fun v661 =>
    (Xcall Try.prog (Value.func (Fn.func 20) #[] #[]) #[x0, v661] r657.2.drew).bind fun r662 =>
    (QfieldAddr Try.prog 56 r657.1 2).bind fun v663 =>
    (Qload Try.prog 3 v663 r662.2).bind fun v664 =>
    (Xcall Try.prog (Value.func (Fn.func 39) #[] #[]) #[x1, v664] r662.2).bind fun r665 =>
    (Qbin Try.prog Go.BinOp.eql 29 r662.1 r665.1).bind fun v666 =>
    chkK ((Qload Try.prog 3 v663 r657.2.drew = some v664 ∧ Qload Try.prog 3 v663 r662.2 = some v664) ∧ True) (
      some (v666, r665.2)
    )
  ) (
    (QfieldAddr Try.prog 56 r657.1 0).bind fun v667 =>
    (Qload Try.prog 26 v667 r657.2.drew).bind fun v668 =>
    (Xcall Try.prog (Value.func (Fn.func 12) #[] #[]) #[x0, v668] r657.2.drew).bind fun r669 =>
    (QfieldAddr Try.prog 56 r657.1 0).bind fun v670 =>
    (Qload Try.prog 26 v670 r669.2).bind fun v671 =>
    (Xcall Try.prog (Value.func (Fn.func 40) #[] #[]) #[x1, v671] r669.2).bind fun r672 =>
    (Qbin Try.prog Go.BinOp.eql 29 r669.1 r672.1).bind fun v673 =>
    chkK ((Qload Try.prog 26 v670 r657.2.drew = some v671 ∧ Qload Try.prog 26 v670 r669.2 = some v671) ∧ True) (
      some (v673, r672.2)
    )
  )
theorem s25eq (x0 x1 x2 : Value) (w : World) : evK Try.prog 25 none (bodyOf Try.f25) none _ { tmps := (([x0, x1, x2] : List Value) ++ List.replicate (27 - 3) undef).toArray, defers := [] } w (leaveK Try.prog Try.f25) = s25 x0 x1 x2 w := by kernel_rfl
theorem c25 {x0 x1 x2 : Value} {w : World} {r : Value × World} (h : s25 x0 x1 x2 w = some r) : C Try.prog 25 #[x0, x1, x2] w = some r :=
  C_ev follows_all drawLaw (by kernel_rfl) Try.func25 (by rfl) ((s25eq x0 x1 x2 w).trans h)
theorem e25 {x0 x1 x2 : Value} {w : World} {Q : Value × World → Prop} (h : Brings (s25 x0 x1 x2 w) Q) : Brings (Xcall Try.prog (Value.func (Fn.func 25) #[] #[]) #[x0, x1, x2] w) Q :=
  h.call (Xcall_fn Try.func25 (by decide +kernel) (by rfl) _ _ _ w) fun _ h => c25 h

/-! slices.Contains[[]lychgate/api.Rule,lychgate/api.Rule] -/
noncomputable def s26 (x0 x1 : Value) (w : World) : Option (Value × World) :=
  (Xbox Try.prog 26 x1 w).bind fun r674 =>
  (Qload Try.prog 26 r674.1 r674.2).bind fun v675 =>
  (Xcall Try.prog (Value.func (Fn.func 41) #[] #[]) #[x0, v675] r674.2).bind fun r676 =>
  (Qbin Try.prog Go.BinOp.geq 3 r676.1 (Go.Value.int Go.IntKind.i64 0)).bind fun v677 =>
  some (v677, r676.2)
theorem s26eq (x0 x1 : Value) (w : World) : evK Try.prog 26 none (bodyOf Try.f26) none _ { tmps := (([x0, x1] : List Value) ++ List.replicate (9 - 2) undef).toArray, defers := [] } w (leaveK Try.prog Try.f26) = s26 x0 x1 w := by kernel_rfl
theorem c26 {x0 x1 : Value} {w : World} {r : Value × World} (h : s26 x0 x1 w = some r) : C Try.prog 26 #[x0, x1] w = some r :=
  C_ev follows_all drawLaw (by kernel_rfl) Try.func26 (by rfl) ((s26eq x0 x1 w).trans h)
theorem e26 {x0 x1 : Value} {w : World} {Q : Value × World → Prop} (h : Brings (s26 x0 x1 w) Q) : Brings (Xcall Try.prog (Value.func (Fn.func 26) #[] #[]) #[x0, x1] w) Q :=
  h.call (Xcall_fn Try.func26 (by decide +kernel) (by rfl) _ _ _ w) fun _ h => c26 h

/-! lychgate/rules.mask -/
noncomputable def s27 (x0 : Value) (w : World) : Option (Value × World) :=
  (Qbin Try.prog Go.BinOp.sub 3 (Go.Value.int Go.IntKind.i64 32) x0).bind fun v678 =>
  (Qbin Try.prog Go.BinOp.shl 23 (Go.Value.int Go.IntKind.u32 4294967295) v678).bind fun v679 =>
  some (v679, w)
theorem s27eq (x0 : Value) (w : World) : evK Try.prog 27 none (bodyOf Try.f27) none _ { tmps := (([x0] : List Value) ++ List.replicate (6 - 1) undef).toArray, defers := [] } w (leaveK Try.prog Try.f27) = s27 x0 w := by kernel_rfl
theorem c27 {x0 : Value} {w : World} {r : Value × World} (h : s27 x0 w = some r) : C Try.prog 27 #[x0] w = some r :=
  C_ev follows_all drawLaw (by kernel_rfl) Try.func27 (by rfl) ((s27eq x0 w).trans h)
theorem e27 {x0 : Value} {w : World} {Q : Value × World → Prop} (h : Brings (s27 x0 w) Q) : Brings (Xcall Try.prog (Value.func (Fn.func 27) #[] #[]) #[x0] w) Q :=
  h.call (Xcall_fn Try.func27 (by decide +kernel) (by rfl) _ _ _ w) fun _ h => c27 h

/-! lychgate/lychgateref09.upper -/
noncomputable def s28K0 : Exit → Act → World → Option (Value × World) := seqK (fun a w => evK Try.prog 28 none (nav [1, 1] (bodyOf Try.f28)) none _ a w (leaveK Try.prog Try.f28)) (leaveK Try.prog Try.f28)
noncomputable def s28K1 : Exit → Act → World → Option (Value × World) := blockK 0 s28K0
noncomputable def s28L0 (s : List Value) (d : List Deferred) (w : World) : Option (Value × World) := loopN Try.prog 28 none (nav [1, 0, 1, 0, 0] (bodyOf Try.f28)) s28K1 s d w
noncomputable def s28B0 : List Value → World → Option (Exit × List Value × World)
  | [x0, x1, x5], w =>
    (Qbin Try.prog Go.BinOp.sub 3 (Go.Value.int Go.IntKind.i64 32) x1).bind fun v680 =>
    (Qbin Try.prog Go.BinOp.lss 3 x5 v680).bind fun v681 =>
    condK v681 (
      (Qbin Try.prog Go.BinOp.shl 23 (Go.Value.int Go.IntKind.u32 1) x5).bind fun v682 =>
      (Qbin Try.prog Go.BinOp.andNot 23 x0 v682).bind fun v683 =>
      (Qbin Try.prog Go.BinOp.add 3 x5 (Go.Value.int Go.IntKind.i64 1)).bind fun v684 =>
      some (Exit.normal, [v683, x1, v684], w)
    ) (
      some ((Exit.exit 0), [x0, x1, x5], w)
    )
  | _, _ => none
noncomputable def s28R0 : Exit → List Value → World → Option (Value × World)
  | (Exit.exit 0), [x0, _, _], w =>
    some (x0, w)
  | _, _, _ => none
noncomputable def s28raw (x0 x1 : Value) (w : World) : Option (Value × World) :=
  s28L0 [x0, x1, undef, undef, (Go.Value.int Go.IntKind.u32 0), (Go.Value.int Go.IntKind.i64 0), undef, undef, undef, undef, undef, undef, undef, undef, undef, undef, undef] [] w
noncomputable def s28 (x0 x1 : Value) (w : World) : Option (Value × World) :=
  loopR s28B0 s28R0 [x0, x1, (Go.Value.int Go.IntKind.i64 0)] w
theorem s28B0eq (x0 x1 x5 : Value) (w : World) (g : Nat → Value) (d : List Deferred) : evK Try.prog 28 none (nav [1, 0, 1, 0, 0] (bodyOf Try.f28)) none _ (frm 17 (setL [0, 1, 5] [x0, x1, x5] g) d) w (projK [0, 1, 5]) = s28B0 [x0, x1, x5] w := by kernel_rfl
theorem s28R0x0eq (x0 x1 x5 : Value) (g : Nat → Value) (w : World) : s28K1 (Exit.exit 0) (frm 17 (setL [0, 1, 5] [x0, x1, x5] g) []) w = s28R0 (Exit.exit 0) [x0, x1, x5] w := by kernel_rfl
theorem s28R0of : ∀ (e : Exit) (xs : List Value) (w : World) (g : Nat → Value) (y : _), s28R0 e xs w = some y → s28K1 e (frm 17 (setL [0, 1, 5] xs g) []) w = some y := by
  intro e xs w g y h
  unfold s28R0 at h
  split at h
  · exact (s28R0x0eq _ _ _ g _).trans h
  · cases h
theorem s28L0of {s0 s1 s2 s3 s4 s5 s6 s7 s8 s9 s10 s11 s12 s13 s14 s15 s16 : Value} {w : World} {r : _} (h : loopR s28B0 s28R0 [s0, s1, s5] w = some r) : s28L0 [s0, s1, s2, s3, s4, s5, s6, s7, s8, s9, s10, s11, s12, s13, s14, s15, s16] [] w = some r :=
  loopN_of (B := s28B0) (R := s28R0) (n := 17) (live := [0, 1, 5]) (fun xs w g y hl h => match xs, hl, h with | [x0, x1, x5], _, h => (s28B0eq x0 x1 x5 w g []).trans h) (by kernel_rfl) (s28R0of) (fun i => ([s0, s1, s2, s3, s4, s5, s6, s7, s8, s9, s10, s11, s12, s13, s14, s15, s16] : List Value).getD i undef) (by kernel_rfl) rfl h
theorem s28eq (x0 x1 : Value) (w : World) : evK Try.prog 28 none (bodyOf Try.f28) none _ { tmps := (([x0, x1] : List Value) ++ List.replicate (17 - 2) undef).toArray, defers := [] } w (leaveK Try.prog Try.f28) = s28raw x0 x1 w := by kernel_rfl
theorem c28 {x0 x1 : Value} {w : World} {r : Value × World} (h : s28 x0 x1 w = some r) : C Try.prog 28 #[x0, x1] w = some r :=
  C_ev follows_all drawLaw (by kernel_rfl) Try.func28 (by rfl) ((s28eq x0 x1 w).trans (show s28raw x0 x1 w = some r from (s28L0of) h))
theorem e28 {x0 x1 : Value} {w : World} {Q : Value × World → Prop} (h : Brings (s28 x0 x1 w) Q) : Brings (Xcall Try.prog (Value.func (Fn.func 28) #[] #[]) #[x0, x1] w) Q :=
  h.call (Xcall_fn Try.func28 (by decide +kernel) (by rfl) _ _ _ w) fun _ h => c28 h

/-! slices.Clone[[]lychgate/api.Rule,lychgate/api.Rule] -/
noncomputable def s29 (x0 : Value) (w : World) : Option (Value × World) :=
  (Qbin Try.prog Go.BinOp.eql 33 x0 (Go.Value.slice none 0 0)).bind fun v685 =>
  condK v685 (
    some ((Go.Value.slice none 0 0), w)
  ) (
    (XbuildSlice Try.prog 33 0 #[] w).bind fun r686 =>
    (Xbi Try.prog Go.Builtin.append #[33, 33] 33 #[r686.1, x0] r686.2).bind fun r687 =>
    some (r687.1, r687.2)
  )
theorem s29eq (x0 : Value) (w : World) : evK Try.prog 29 none (bodyOf Try.f29) none _ { tmps := (([x0] : List Value) ++ List.replicate (8 - 1) undef).toArray, defers := [] } w (leaveK Try.prog Try.f29) = s29 x0 w := by kernel_rfl
theorem c29 {x0 : Value} {w : World} {r : Value × World} (h : s29 x0 w = some r) : C Try.prog 29 #[x0] w = some r :=
  C_ev follows_all drawLaw (by kernel_rfl) Try.func29 (by rfl) ((s29eq x0 w).trans h)
theorem e29 {x0 : Value} {w : World} {Q : Value × World → Prop} (h : Brings (s29 x0 w) Q) : Brings (Xcall Try.prog (Value.func (Fn.func 29) #[] #[]) #[x0] w) Q :=
  h.call (Xcall_fn Try.func29 (by decide +kernel) (by rfl) _ _ _ w) fun _ h => c29 h

/-! lychgate/lychgateref09.New -/
noncomputable def s30 (w : World) : Option (Value × World) :=
  (Qbuild Try.prog 71 #[] w).bind fun v688 =>
  (Xbox Try.prog 71 v688 w).bind fun r689 =>
  some (r689.1, r689.2)
theorem s30eq (w : World) : evK Try.prog 30 none (bodyOf Try.f30) none _ { tmps := (([] : List Value) ++ List.replicate (3 - 0) undef).toArray, defers := [] } w (leaveK Try.prog Try.f30) = s30  w := by kernel_rfl
theorem c30 {w : World} {r : Value × World} (h : s30  w = some r) : C Try.prog 30 #[] w = some r :=
  C_ev follows_all drawLaw (by kernel_rfl) Try.func30 (by rfl) ((s30eq  w).trans h)
theorem e30 {w : World} {Q : Value × World → Prop} (h : Brings (s30  w) Q) : Brings (Xcall Try.prog (Value.func (Fn.func 30) #[] #[]) #[] w) Q :=
  h.call (Xcall_fn Try.func30 (by decide +kernel) (by rfl) _ _ _ w) fun _ h => c30 h

/-! lychgate/rules.first[lychgate/api.Rule] -/
noncomputable def s31K0 : Exit → Act → World → Option (Value × World) := seqK (fun a w => evK Try.prog 31 none (nav [1, 1] (bodyOf Try.f31)) none _ a w (leaveK Try.prog Try.f31)) (leaveK Try.prog Try.f31)
noncomputable def s31K1 : Exit → Act → World → Option (Value × World) := blockK 0 s31K0
noncomputable def s31G0R (s4 s5 : Value) (d : List Deferred) (w : World) : Exit → Option (Value × World)
  | Exit.normal =>
    (Qload Try.prog 26 s4 w).bind fun v693 =>
    (Xstore Try.prog 26 s4 v693 w).bind fun r694 =>
    (Xstore Try.prog 4 s5 (Go.Value.bool false) r694.2).bind fun r695 =>
    (takeAll Try.prog d r695.2).bind fun w_ => ((((Qload Try.prog 26 s4 w_).bind fun v => (((Qload Try.prog 4 s5 w_).bind fun v => ((some [])).map fun vs => v :: vs)).map fun vs => v :: vs)).map oneOf).map fun v => (v, w_)
  | Exit.ret =>
    (takeAll Try.prog d w).bind fun w_ => ((((Qload Try.prog 26 s4 w_).bind fun v => (((Qload Try.prog 4 s5 w_).bind fun v => ((some [])).map fun vs => v :: vs)).map fun vs => v :: vs)).map oneOf).map fun v => (v, w_)
  | _ => none
noncomputable def s31G0Q (l : Nat) (s3 s4 s5 s8 : Value) (w : World) : Option (Value × World) :=
  (Xalloc Try.prog 26 w).bind fun r696 =>
  (Xstore Try.prog 26 r696.1 s8 r696.2).bind fun r697 =>
  begK Try.prog l r697.2 fun w698 =>
  (Qload Try.prog 31 s3 w698).bind fun v699 =>
  (Qload Try.prog 26 r696.1 w698).bind fun v700 =>
  (Xcall Try.prog v699 #[v700] w698).bind fun r701 =>
  condK r701.1 (
    (Qload Try.prog 26 r696.1 r701.2).bind fun v702 =>
    (Xstore Try.prog 26 s4 v702 r701.2).bind fun r703 =>
    (Xstore Try.prog 4 s5 (Go.Value.bool true) r703.2).bind fun r704 =>
    endR Try.prog l (some Code.ret) r704.2
  ) (
    endR Try.prog l none r701.2
  )
noncomputable def s31raw (x0 x1 : Value) (w : World) : Option (Value × World) :=
  (Xbox Try.prog 31 x1 w).bind fun r690 =>
  (Xalloc Try.prog 26 r690.2).bind fun r691 =>
  (Xalloc Try.prog 4 r691.2).bind fun r692 =>
  (evRange Try.prog 31 none x0 #[8] (nav [1, 0, 1, 0, 0] (bodyOf Try.f31)) (nav [1, 0, 1, 0, 1] (bodyOf Try.f31)) ⟨[x0, x1, undef, r690.1, r691.1, r692.1, undef, x0, undef, undef, undef, undef, undef, undef].toArray, []⟩ r692.2).bind fun x => s31K1 x.1 x.2.1 x.2.2
noncomputable def s31 (x0 x1 : Value) (w : World) : Option (Value × World) :=
  (Xbox Try.prog 31 x1 w).bind fun r690 =>
  (Xalloc Try.prog 26 r690.2).bind fun r691 =>
  (Xalloc Try.prog 4 r691.2).bind fun r692 =>
  (evRange Try.prog 31 none x0 #[8] (nav [1, 0, 1, 0, 0] (bodyOf Try.f31)) (nav [1, 0, 1, 0, 1] (bodyOf Try.f31)) ⟨[x0, x1, undef, r690.1, r691.1, r692.1, undef, x0, undef, undef, undef, undef, undef, undef].toArray, []⟩ r692.2).bind fun x => s31G0R r691.1 r692.1 x.2.1.defers x.2.2 x.1
theorem s31G0Rnrmeq (s0 s1 s2 s3 s4 s5 s6 s7 s8 s9 s10 s11 s12 s13 : Value) (d : List Deferred) (w : World) : s31K1 Exit.normal ⟨[s0, s1, s2, s3, s4, s5, s6, s7, s8, s9, s10, s11, s12, s13].toArray, d⟩ w = s31G0R s4 s5 d w Exit.normal := by kernel_rfl
theorem s31G0Rreteq (s0 s1 s2 s3 s4 s5 s6 s7 s8 s9 s10 s11 s12 s13 : Value) (d : List Deferred) (w : World) : s31K1 Exit.ret ⟨[s0, s1, s2, s3, s4, s5, s6, s7, s8, s9, s10, s11, s12, s13].toArray, d⟩ w = s31G0R s4 s5 d w Exit.ret := by kernel_rfl
theorem s31G0Rof {s0 s1 s2 s3 s4 s5 s6 s7 s8 s9 s10 s11 s12 s13 : Value} {d : List Deferred} {w : World} {e : Exit} {y : _} (h : s31G0R s4 s5 d w e = some y) : s31K1 e ⟨[s0, s1, s2, s3, s4, s5, s6, s7, s8, s9, s10, s11, s12, s13].toArray, d⟩ w = some y := by
  unfold s31G0R at h
  split at h
  · exact (s31G0Rnrmeq _ _ _ _ _ _ _ _ _ _ _ _ _ _ _ _).trans h
  · exact (s31G0Rreteq _ _ _ _ _ _ _ _ _ _ _ _ _ _ _ _).trans h
  · cases h
theorem s31G0Qeq (l : Nat) (s0 s1 s2 s3 s4 s5 s6 s7 s8 s9 s10 s11 s12 s13 : Value) (w : World) : roundE Try.prog l 31 [s0, s1, s2, s3, s4, s5, s6, s7, s8, s9, s10, s11, s12, s13].toArray (nav [1, 0, 1, 0, 0] (bodyOf Try.f31)) (nav [1, 0, 1, 0, 1] (bodyOf Try.f31)) w = s31G0Q l s3 s4 s5 s8 w := by kernel_rfl
theorem s31G0Qof {l : Nat} {s0 s1 s2 s3 s4 s5 s6 s7 s8 s9 s10 s11 s12 s13 : Value} {w : World} {r : Value × World} (h : s31G0Q l s3 s4 s5 s8 w = some r) : Rd Try.prog l 31 [s0, s1, s2, s3, s4, s5, s6, s7, s8, s9, s10, s11, s12, s13].toArray (nav [1, 0, 1, 0, 0] (bodyOf Try.f31)) (nav [1, 0, 1, 0, 1] (bodyOf Try.f31)) w = some r :=
  Rd_ev follows_all drawLaw (by kernel_rfl) ((s31G0Qeq l s0 s1 s2 s3 s4 s5 s6 s7 s8 s9 s10 s11 s12 s13 w).trans h)
theorem s31G0Qb {l : Nat} {s0 s1 s2 s3 s4 s5 s6 s7 s8 s9 s10 s11 s12 s13 : Value} {w : World} {Q : Value × World → Prop} (h : Brings (s31G0Q l s3 s4 s5 s8 w) Q) : Brings (Rd Try.prog l 31 [s0, s1, s2, s3, s4, s5, s6, s7, s8, s9, s10, s11, s12, s13].toArray (nav [1, 0, 1, 0, 0] (bodyOf Try.f31)) (nav [1, 0, 1, 0, 1] (bodyOf Try.f31)) w) Q := h.of_eq fun _ h => s31G0Qof h
theorem s31eq (x0 x1 : Value) (w : World) : evK Try.prog 31 none (bodyOf Try.f31) none _ { tmps := (([x0, x1] : List Value) ++ List.replicate (14 - 2) undef).toArray, defers := [] } w (leaveK Try.prog Try.f31) = s31raw x0 x1 w := by kernel_rfl
theorem c31 {x0 x1 : Value} {w : World} {r : Value × World} (h : s31 x0 x1 w = some r) : C Try.prog 31 #[x0, x1] w = some r :=
  C_ev follows_all drawLaw (by kernel_rfl) Try.func31 (by rfl) ((s31eq x0 x1 w).trans (show s31raw x0 x1 w = some r from (Ev.bind_mono fun (r690 : Value × World) => (Ev.bind_mono fun (r691 : Value × World) => (Ev.bind_mono fun (r692 : Value × World) => (range_of (R := fun e d w => s31G0R r691.1 r692.1 d w e) (fun e d w y h => s31G0Rof h))))) h))
theorem e31 {x0 x1 : Value} {w : World} {Q : Value × World → Prop} (h : Brings (s31 x0 x1 w) Q) : Brings (Xcall Try.prog (Value.func (Fn.func 31) #[] #[]) #[x0, x1] w) Q :=
  h.call (Xcall_fn Try.func31 (by decide +kernel) (by rfl) _ _ _ w) fun _ h => c31 h

/-! (*lychgate/rules.Rules).of -/
noncomputable def s32 (x0 x1 : Value) (w : World) : Option (Value × World) :=
  (Xbox Try.prog 27 x0 w).bind fun r705 =>
  (Xbox Try.prog 22 x1 r705.2).bind fun r706 =>
  (some (Value.func (Go.Fn.func 42) #[] #[r705.1, r706.1])).bind fun v707 =>
  some (v707, r706.2)
theorem s32eq (x0 x1 : Value) (w : World) : evK Try.prog 32 none (bodyOf Try.f32) none _ { tmps := (([x0, x1] : List Value) ++ List.replicate (6 - 2) undef).toArray, defers := [] } w (leaveK Try.prog Try.f32) = s32 x0 x1 w := by kernel_rfl
theorem c32 {x0 x1 : Value} {w : World} {r : Value × World} (h : s32 x0 x1 w = some r) : C Try.prog 32 #[x0, x1] w = some r :=
  C_ev follows_all drawLaw (by kernel_rfl) Try.func32 (by rfl) ((s32eq x0 x1 w).trans h)
theorem e32 {x0 x1 : Value} {w : World} {Q : Value × World → Prop} (h : Brings (s32 x0 x1 w) Q) : Brings (Xcall Try.prog (Value.func (Fn.func 32) #[] #[]) #[x0, x1] w) Q :=
  h.call (Xcall_fn Try.func32 (by decide +kernel) (by rfl) _ _ _ w) fun _ h => c32 h

/-! (*lychgate/rules.Rules).Masq$1 -/
noncomputable def s33 (x0 x1 : Value) (w : World) : Option (Value × World) :=
  (Xbox Try.prog 26 x0 w).bind fun r708 =>
  (Qload Try.prog 23 x1 r708.2.drew).bind fun v709 =>
  (QfieldAddr Try.prog 26 r708.1 3).bind fun v710 =>
  (Qload Try.prog 3 v710 r708.2.drew).bind fun v711 =>
  (Xcall Try.prog (Value.func (Fn.func 27) #[] #[]) #[v711] r708.2.drew).bind fun r712 =>
  (Qbin Try.prog Go.BinOp.and 23 v709 r712.1).bind fun v713 =>
  (QfieldAddr Try.prog 26 r708.1 2).bind fun v714 =>
  (Qload Try.prog 23 v714 r712.2).bind fun v715 =>
  (Qbin Try.prog Go.BinOp.eql 23 v713 v715).bind fun v716 =>
  chkK ((Qload Try.prog 23 x1 r708.2.drew = some v709 ∧ Qload Try.prog 23 x1 r712.2 = some v709) ∧ ((Qload Try.prog 23 v714 r708.2.drew = some v715 ∧ Qload Try.prog 23 v714 r712.2 = some v715) ∧ True)) (
    some (v716, r712.2)
  )
theorem s33eq (x0 x1 : Value) (w : World) : evK Try.prog 33 none (bodyOf Try.f33) none _ { tmps := (([x0, x1] : List Value) ++ List.replicate (12 - 2) undef).toArray, defers := [] } w (leaveK Try.prog Try.f33) = s33 x0 x1 w := by kernel_rfl
theorem c33 {x0 x1 : Value} {w : World} {r : Value × World} (h : s33 x0 x1 w = some r) : C Try.prog 33 #[x0, x1] w = some r :=
  C_ev follows_all drawLaw (by kernel_rfl) Try.func33 (by rfl) ((s33eq x0 x1 w).trans h)
theorem e33 {x0 x1 : Value} {w : World} {Q : Value × World → Prop} (h : Brings (s33 x0 x1 w) Q) : Brings (Xcall Try.prog (Value.func (Fn.func 33) #[] #[x1]) #[x0] w) Q :=
  h.call (Xcall_fn Try.func33 (by decide +kernel) (by rfl) _ _ _ w) fun _ h => c33 h

/-! (*lychgate/rules.Rules).Dnat$1 -/
noncomputable def s34 (x0 x1 x2 x3 : Value) (w : World) : Option (Value × World) :=
  (Xbox Try.prog 26 x0 w).bind fun r717 =>
  (QfieldAddr Try.prog 26 r717.1 1).bind fun v718 =>
  (Qload Try.prog 5 v718 r717.2).bind fun v719 =>
  (Qload Try.prog 5 x1 r717.2).bind fun v720 =>
  (Qbin Try.prog Go.BinOp.eql 5 v719 v720).bind fun v721 =>
  (guardQ v721 true (QfieldAddr Try.prog 26 r717.1 4)).bind fun v722 =>
  (guardQ v721 true (Qload Try.prog 23 v722 r717.2)).bind fun v723 =>
  (guardQ v721 true (Qload Try.prog 23 x2 r717.2)).bind fun v724 =>
  (guardQ v721 true (Qbin Try.prog Go.BinOp.eql 23 v723 v724)).bind fun v725 =>
  (Qpick v721 v725 (Go.Value.bool false)).bind fun v726 =>
  (guardQ v726 true (QfieldAddr Try.prog 26 r717.1 5)).bind fun v727 =>
  (guardQ v726 true (Qload Try.prog 24 v727 r717.2)).bind fun v728 =>
  (guardQ v726 true (Qload Try.prog 24 x3 r717.2)).bind fun v729 =>
  (guardQ v726 true (Qbin Try.prog Go.BinOp.eql 24 v728 v729)).bind fun v730 =>
  (Qpick v726 v730 (Go.Value.bool false)).bind fun v731 =>
  some (v731, r717.2)
theorem s34eq (x0 x1 x2 x3 : Value) (w : World) : evK Try.prog 34 none (bodyOf Try.f34) none _ { tmps := (([x0, x1, x2, x3] : List Value) ++ List.replicate (22 - 4) undef).toArray, defers := [] } w (leaveK Try.prog Try.f34) = s34 x0 x1 x2 x3 w := by kernel_rfl
theorem c34 {x0 x1 x2 x3 : Value} {w : World} {r : Value × World} (h : s34 x0 x1 x2 x3 w = some r) : C Try.prog 34 #[x0, x1, x2, x3] w = some r :=
  C_ev follows_all drawLaw (by kernel_rfl) Try.func34 (by rfl) ((s34eq x0 x1 x2 x3 w).trans h)
theorem e34 {x0 x1 x2 x3 : Value} {w : World} {Q : Value × World → Prop} (h : Brings (s34 x0 x1 x2 x3 w) Q) : Brings (Xcall Try.prog (Value.func (Fn.func 34) #[] #[x1, x2, x3]) #[x0] w) Q :=
  h.call (Xcall_fn Try.func34 (by decide +kernel) (by rfl) _ _ _ w) fun _ h => c34 h

/-! slices.Delete[[]lychgate/api.Rule,lychgate/api.Rule] -/
noncomputable def s35 (x0 x1 x2 : Value) (w : World) : Option (Value × World) :=
  (Qlen Try.prog #[33] 3 #[x0] w).bind fun v732 =>
  (Qslice Try.prog 33 x0 (some x1) (some x2) (some v732) w).bind fun _ =>
  (Qbin Try.prog Go.BinOp.eql 3 x1 x2).bind fun v734 =>
  condK v734 (
    some (x0, w)
  ) (
    (Qlen Try.prog #[33] 3 #[x0] w).bind fun v735 =>
    (Qslice Try.prog 33 x0 none (some x1) none w.drew).bind fun v736 =>
    (Qslice Try.prog 33 x0 (some x2) none none w.drew).bind fun v737 =>
    (Xbi Try.prog Go.Builtin.append #[33, 33] 33 #[v736, v737] w.drew).bind fun r738 =>
    chkK True (
      (Qlen Try.prog #[33] 3 #[r738.1] r738.2).bind fun v739 =>
      (Qslice Try.prog 33 r738.1 (some v739) (some v735) none r738.2).bind fun v740 =>
      (Xbi Try.prog Go.Builtin.clear #[33] 0 #[v740] r738.2).bind fun r741 =>
      some (r738.1, r741.2)
    )
  )
theorem s35eq (x0 x1 x2 : Value) (w : World) : evK Try.prog 35 none (bodyOf Try.f35) none _ { tmps := (([x0, x1, x2] : List Value) ++ List.replicate (33 - 3) undef).toArray, defers := [] } w (leaveK Try.prog Try.f35) = s35 x0 x1 x2 w := by kernel_rfl
theorem c35 {x0 x1 x2 : Value} {w : World} {r : Value × World} (h : s35 x0 x1 x2 w = some r) : C Try.prog 35 #[x0, x1, x2] w = some r :=
  C_ev follows_all drawLaw (by kernel_rfl) Try.func35 (by rfl) ((s35eq x0 x1 x2 w).trans h)
theorem e35 {x0 x1 x2 : Value} {w : World} {Q : Value × World → Prop} (h : Brings (s35 x0 x1 x2 w) Q) : Brings (Xcall Try.prog (Value.func (Fn.func 35) #[] #[]) #[x0, x1, x2] w) Q :=
  h.call (Xcall_fn Try.func35 (by decide +kernel) (by rfl) _ _ _ w) fun _ h => c35 h

/-! (*lychgate/lychgateref09.Rules).Masq -/
noncomputable def s36K0 : Exit → Act → World → Option (Value × World) := seqK (fun a w => evK Try.prog 36 none (nav [1, 1] (bodyOf Try.f36)) none _ a w (leaveK Try.prog Try.f36)) (leaveK Try.prog Try.f36)
noncomputable def s36K1 : Exit → Act → World → Option (Value × World) := blockK 0 s36K0
noncomputable def s36L0 (s : List Value) (d : List Deferred) (w : World) : Option (Value × World) := loopN Try.prog 36 none (nav [1, 0, 1, 0, 0] (bodyOf Try.f36)) s36K1 s d w
noncomputable def s36B0 : List Value → World → Option (Exit × List Value × World)
  | [x0, x1, x4, x5, x6], w =>
    (Qbin Try.prog Go.BinOp.neq 38 x0 (Go.Value.pointer none)).bind fun v743 =>
    (guardQ v743 true (Qnil (gv (isB v743 true) x0))).bind fun v744 =>
    (guardQ v743 true (QfieldAddr Try.prog 71 v744 0)).bind fun v745 =>
    (guardQ v743 true (Qload Try.prog 33 v745 w)).bind fun v746 =>
    (guardQ v743 true (Qlen Try.prog #[33] 3 #[v746] w)).bind fun v747 =>
    (guardQ v743 true (Qbin Try.prog Go.BinOp.lss 3 (gv (isB v743 true) x6) v747)).bind fun v748 =>
    (Qpick v743 v748 (Go.Value.bool false)).bind fun v749 =>
    condK v749 (
      (Qnil x0).bind fun v750 =>
      (QfieldAddr Try.prog 71 v750 0).bind fun v751 =>
      (Qload Try.prog 33 v751 w.drew).bind fun v752 =>
      (QindexAddr Try.prog 33 v752 x6 w.drew).bind fun v753 =>
      (QfieldAddr Try.prog 26 v753 0).bind fun v754 =>
      (Qload Try.prog 22 v754 w.drew).bind fun v755 =>
      (Qbin Try.prog Go.BinOp.eql 22 v755 (Go.Value.int Go.IntKind.i64 1)).bind fun v756 =>
      (guardQ v756 true (Qnil (gv (isB v756 true) x0))).bind fun v757 =>
      (guardQ v756 true (QfieldAddr Try.prog 71 v757 0)).bind fun v758 =>
      (guardQ v756 true (Qload Try.prog 33 v758 w.drew)).bind fun v759 =>
      (guardQ v756 true (QindexAddr Try.prog 33 v759 (gv (isB v756 true) x6) w.drew)).bind fun v760 =>
      (guardQ v756 true (QfieldAddr Try.prog 26 v760 3)).bind fun v761 =>
      (guardQ v756 true (Qload Try.prog 3 v761 w.drew)).bind fun v762 =>
      (guardX v756 true w.drew (Xcall Try.prog (Value.func (Fn.func 28) #[] #[]) #[(gv (isB v756 true) x1), v762] w.drew)).bind fun r763 =>
      (guardQ v756 true (Qnil (gv (isB v756 true) x0))).bind fun v764 =>
      (guardQ v756 true (QfieldAddr Try.prog 71 v764 0)).bind fun v765 =>
      (guardQ v756 true (Qload Try.prog 33 v765 r763.2)).bind fun v766 =>
      (guardQ v756 true (QindexAddr Try.prog 33 v766 (gv (isB v756 true) x6) r763.2)).bind fun v767 =>
      (guardQ v756 true (QfieldAddr Try.prog 26 v767 2)).bind fun v768 =>
      (guardQ v756 true (Qload Try.prog 23 v768 r763.2)).bind fun v769 =>
      (guardQ v756 true (Qbin Try.prog Go.BinOp.eql 23 r763.1 v769)).bind fun v770 =>
      (Qpick v756 v770 (Go.Value.bool false)).bind fun v771 =>
      chkK ((guardQ v756 true (Qload Try.prog 33 v765 w.drew) = some v766 ∧ guardQ v756 true (Qload Try.prog 33 v765 r763.2) = some v766) ∧ ((guardQ v756 true (QindexAddr Try.prog 33 v766 (gv (isB v756 true) x6) w.drew) = some v767 ∧ guardQ v756 true (QindexAddr Try.prog 33 v766 (gv (isB v756 true) x6) r763.2) = some v767) ∧ ((guardQ v756 true (Qload Try.prog 23 v768 w.drew) = some v769 ∧ guardQ v756 true (Qload Try.prog 23 v768 r763.2) = some v769) ∧ True))) (
        condK v771 (
          (Qnil x0).bind fun v772 =>
          (QfieldAddr Try.prog 71 v772 0).bind fun v773 =>
          (Qload Try.prog 33 v773 r763.2).bind fun v774 =>
          (QindexAddr Try.prog 33 v774 x6 r763.2).bind fun v775 =>
          (Qload Try.prog 26 v775 r763.2).bind fun v776 =>
          (Xstore Try.prog 26 x4 v776 r763.2).bind fun r777 =>
          some (Exit.ret, [x0, x1, x4, (Go.Value.bool true), x6], r777.2)
        ) (
          (Qbin Try.prog Go.BinOp.add 3 x6 (Go.Value.int Go.IntKind.i64 1)).bind fun v778 =>
          some (Exit.normal, [x0, x1, x4, x5, v778], r763.2)
        )
      )
    ) (
      some ((Exit.exit 0), [x0, x1, x4, x5, x6], w)
    )
  | _, _ => none
noncomputable def s36R0 : Exit → List Value → World → Option (Value × World)
  | (Exit.exit 0), [_, _, x4, _, _], w =>
    (Qbuild Try.prog 26 #[] w).bind fun v779 =>
    (Xstore Try.prog 26 x4 v779 w).bind fun r780 =>
    ((((Qload Try.prog 26 x4 r780.2).bind fun v => ((((some [])).map fun vs => (Go.Value.bool false) :: vs)).map fun vs => v :: vs)).map oneOf).map fun v => (v, r780.2)
  | Exit.ret, [_, _, x4, x5, _], w =>
    ((((Qload Try.prog 26 x4 w).bind fun v => ((((some [])).map fun vs => x5 :: vs)).map fun vs => v :: vs)).map oneOf).map fun v => (v, w)
  | _, _, _ => none
noncomputable def s36raw (x0 x1 : Value) (w : World) : Option (Value × World) :=
  (Xalloc Try.prog 26 w).bind fun r742 =>
  s36L0 [x0, x1, undef, undef, r742.1, (Go.Value.bool false), (Go.Value.int Go.IntKind.i64 0), undef, undef, undef, undef, undef, undef, undef, undef, undef, undef, undef, undef, undef, undef, undef, undef, undef, undef, undef, undef, undef, undef, undef, undef, undef, undef, undef, undef, undef, undef, undef, undef, undef, undef, undef, undef, undef, undef, undef, undef, undef, undef, undef, undef, undef, undef, undef, undef, undef, undef, undef] [] r742.2
noncomputable def s36 (x0 x1 : Value) (w : World) : Option (Value × World) :=
  (Xalloc Try.prog 26 w).bind fun r742 =>
  loopR s36B0 s36R0 [x0, x1, r742.1, (Go.Value.bool false), (Go.Value.int Go.IntKind.i64 0)] r742.2
theorem s36B0eq (x0 x1 x4 x5 x6 : Value) (w : World) (g : Nat → Value) (d : List Deferred) : evK Try.prog 36 none (nav [1, 0, 1, 0, 0] (bodyOf Try.f36)) none _ (frm 58 (setL [0, 1, 4, 5, 6] [x0, x1, x4, x5, x6] g) d) w (projK [0, 1, 4, 5, 6]) = s36B0 [x0, x1, x4, x5, x6] w := by kernel_rfl
theorem s36R0x0eq (x0 x1 x4 x5 x6 : Value) (g : Nat → Value) (w : World) : s36K1 (Exit.exit 0) (frm 58 (setL [0, 1, 4, 5, 6] [x0, x1, x4, x5, x6] g) []) w = s36R0 (Exit.exit 0) [x0, x1, x4, x5, x6] w := by kernel_rfl
theorem s36R0ret_eq (x0 x1 x4 x5 x6 : Value) (g : Nat → Value) (w : World) : s36K1 Exit.ret (frm 58 (setL [0, 1, 4, 5, 6] [x0, x1, x4, x5, x6] g) []) w = s36R0 Exit.ret [x0, x1, x4, x5, x6] w := by kernel_rfl
theorem s36R0of : ∀ (e : Exit) (xs : List Value) (w : World) (g : Nat → Value) (y : _), s36R0 e xs w = some y → s36K1 e (frm 58 (setL [0, 1, 4, 5, 6] xs g) []) w = some y := by
  intro e xs w g y h
  unfold s36R0 at h
  split at h
  · exact (s36R0x0eq _ _ _ _ _ g _).trans h
  · exact (s36R0ret_eq _ _ _ _ _ g _).trans h
  · cases h
theorem s36L0of {s0 s1 s2 s3 s4 s5 s6 s7 s8 s9 s10 s11 s12 s13 s14 s15 s16 s17 s18 s19 s20 s21 s22 s23 s24 s25 s26 s27 s28 s29 s30 s31 s32 s33 s34 s35 s36 s37 s38 s39 s40 s41 s42 s43 s44 s45 s46 s47 s48 s49 s50 s51 s52 s53 s54 s55 s56 s57 : Value} {w : World} {r : _} (h : loopR s36B0 s36R0 [s0, s1, s4, s5, s6] w = some r) : s36L0 [s0, s1, s2, s3, s4, s5, s6, s7, s8, s9, s10, s11, s12, s13, s14, s15, s16, s17, s18, s19, s20, s21, s22, s23, s24, s25, s26, s27, s28, s29, s30, s31, s32, s33, s34, s35, s36, s37, s38, s39, s40, s41, s42, s43, s44, s45, s46, s47, s48, s49, s50, s51, s52, s53, s54, s55, s56, s57] [] w = some r :=
  loopN_of (B := s36B0) (R := s36R0) (n := 58) (live := [0, 1, 4, 5, 6]) (fun xs w g y hl h => match xs, hl, h with | [x0, x1, x4, x5, x6], _, h => (s36B0eq x0 x1 x4 x5 x6 w g []).trans h) (by kernel_rfl) (s36R0of) (fun i => ([s0, s1, s2, s3, s4, s5, s6, s7, s8, s9, s10, s11, s12, s13, s14, s15, s16, s17, s18, s19, s20, s21, s22, s23, s24, s25, s26, s27, s28, s29, s30, s31, s32, s33, s34, s35, s36, s37, s38, s39, s40, s41, s42, s43, s44, s45, s46, s47, s48, s49, s50, s51, s52, s53, s54, s55, s56, s57] : List Value).getD i undef) (by kernel_rfl) rfl h
theorem s36eq (x0 x1 : Value) (w : World) : evK Try.prog 36 none (bodyOf Try.f36) none _ { tmps := (([x0, x1] : List Value) ++ List.replicate (58 - 2) undef).toArray, defers := [] } w (leaveK Try.prog Try.f36) = s36raw x0 x1 w := by kernel_rfl
theorem c36 {x0 x1 : Value} {w : World} {r : Value × World} (h : s36 x0 x1 w = some r) : C Try.prog 36 #[x0, x1] w = some r :=
  C_ev follows_all drawLaw (by kernel_rfl) Try.func36 (by rfl) ((s36eq x0 x1 w).trans (show s36raw x0 x1 w = some r from (Ev.bind_mono fun (r742 : Value × World) => (s36L0of)) h))
theorem e36 {x0 x1 : Value} {w : World} {Q : Value × World → Prop} (h : Brings (s36 x0 x1 w) Q) : Brings (Xcall Try.prog (Value.func (Fn.func 36) #[] #[]) #[x0, x1] w) Q :=
  h.call (Xcall_fn Try.func36 (by decide +kernel) (by rfl) _ _ _ w) fun _ h => c36 h

/-! (*lychgate/lychgateref09.Rules).Dnat -/
noncomputable def s37K0 : Exit → Act → World → Option (Value × World) := seqK (fun a w => evK Try.prog 37 none (nav [1, 1] (bodyOf Try.f37)) none _ a w (leaveK Try.prog Try.f37)) (leaveK Try.prog Try.f37)
noncomputable def s37K1 : Exit → Act → World → Option (Value × World) := blockK 0 s37K0
noncomputable def s37L0 (s : List Value) (d : List Deferred) (w : World) : Option (Value × World) := loopN Try.prog 37 none (nav [1, 0, 1, 0, 0] (bodyOf Try.f37)) s37K1 s d w
noncomputable def s37B0 : List Value → World → Option (Exit × List Value × World)
  | [x0, x1, x2, x3, x8, x9, x10], w =>
    (Qbin Try.prog Go.BinOp.neq 38 x0 (Go.Value.pointer none)).bind fun v782 =>
    (guardQ v782 true (Qnil (gv (isB v782 true) x0))).bind fun v783 =>
    (guardQ v782 true (QfieldAddr Try.prog 71 v783 0)).bind fun v784 =>
    (guardQ v782 true (Qload Try.prog 33 v784 w)).bind fun v785 =>
    (guardQ v782 true (Qlen Try.prog #[33] 3 #[v785] w)).bind fun v786 =>
    (guardQ v782 true (Qbin Try.prog Go.BinOp.lss 3 (gv (isB v782 true) x10) v786)).bind fun v787 =>
    (Qpick v782 v787 (Go.Value.bool false)).bind fun v788 =>
    condK v788 (
      (Qnil x0).bind fun v789 =>
      (QfieldAddr Try.prog 71 v789 0).bind fun v790 =>
      (Qload Try.prog 33 v790 w).bind fun v791 =>
      (QindexAddr Try.prog 33 v791 x10 w).bind fun v792 =>
      (Qload Try.prog 26 v792 w).bind fun v793 =>
      (Xalloc Try.prog 26 w).bind fun r794 =>
      (Xstore Try.prog 26 r794.1 v793 r794.2).bind fun r795 =>
      (QfieldAddr Try.prog 26 r794.1 0).bind fun v796 =>
      (Qload Try.prog 22 v796 r795.2).bind fun v797 =>
      (Qbin Try.prog Go.BinOp.eql 22 v797 (Go.Value.int Go.IntKind.i64 2)).bind fun v798 =>
      (guardQ v798 true (QfieldAddr Try.prog 26 r794.1 1)).bind fun v799 =>
      (guardQ v798 true (Qload Try.prog 5 v799 r795.2)).bind fun v800 =>
      (guardQ v798 true (Qbin Try.prog Go.BinOp.eql 5 v800 (gv (isB v798 true) x1))).bind fun v801 =>
      (Qpick v798 v801 (Go.Value.bool false)).bind fun v802 =>
      (guardQ v802 true (QfieldAddr Try.prog 26 r794.1 4)).bind fun v803 =>
      (guardQ v802 true (Qload Try.prog 23 v803 r795.2)).bind fun v804 =>
      (guardQ v802 true (Qbin Try.prog Go.BinOp.eql 23 v804 (gv (isB v802 true) x2))).bind fun v805 =>
      (Qpick v802 v805 (Go.Value.bool false)).bind fun v806 =>
      (guardQ v806 true (QfieldAddr Try.prog 26 r794.1 5)).bind fun v807 =>
      (guardQ v806 true (Qload Try.prog 24 v807 r795.2)).bind fun v808 =>
      (guardQ v806 true (Qbin Try.prog Go.BinOp.eql 24 v808 (gv (isB v806 true) x3))).bind fun v809 =>
      (Qpick v806 v809 (Go.Value.bool false)).bind fun v810 =>
      condK v810 (
        (Qload Try.prog 26 r794.1 r795.2).bind fun v811 =>
        (Xstore Try.prog 26 x8 v811 r795.2).bind fun r812 =>
        some (Exit.ret, [x0, x1, x2, x3, x8, (Go.Value.bool true), x10], r812.2)
      ) (
        (Qbin Try.prog Go.BinOp.add 3 x10 (Go.Value.int Go.IntKind.i64 1)).bind fun v813 =>
        some (Exit.normal, [x0, x1, x2, x3, x8, x9, v813], r795.2)
      )
    ) (
      some ((Exit.exit 0), [x0, x1, x2, x3, x8, x9, x10], w)
    )
  | _, _ => none
noncomputable def s37R0 : Exit → List Value → World → Option (Value × World)
  | (Exit.exit 0), [_, _, _, _, x8, _, _], w =>
    (Qbuild Try.prog 26 #[] w).bind fun v814 =>
    (Xstore Try.prog 26 x8 v814 w).bind fun r815 =>
    ((((Qload Try.prog 26 x8 r815.2).bind fun v => ((((some [])).map fun vs => (Go.Value.bool false) :: vs)).map fun vs => v :: vs)).map oneOf).map fun v => (v, r815.2)
  | Exit.ret, [_, _, _, _, x8, x9, _], w =>
    ((((Qload Try.prog 26 x8 w).bind fun v => ((((some [])).map fun vs => x9 :: vs)).map fun vs => v :: vs)).map oneOf).map fun v => (v, w)
  | _, _, _ => none
noncomputable def s37raw (x0 x1 x2 x3 : Value) (w : World) : Option (Value × World) :=
  (Xalloc Try.prog 26 w).bind fun r781 =>
  s37L0 [x0, x1, x2, x3, undef, undef, undef, undef, r781.1, (Go.Value.bool false), (Go.Value.int Go.IntKind.i64 0), undef, undef, undef, undef, undef, undef, undef, undef, undef, undef, undef, undef, undef, undef, undef, undef, undef, undef, undef, undef, undef, undef, undef, undef, undef, undef, undef, undef, undef, undef, undef, undef, undef, undef, undef, undef, undef, undef, undef, undef, undef, undef, undef, undef] [] r781.2
noncomputable def s37 (x0 x1 x2 x3 : Value) (w : World) : Option (Value × World) :=
  (Xalloc Try.prog 26 w).bind fun r781 =>
  loopR s37B0 s37R0 [x0, x1, x2, x3, r781.1, (Go.Value.bool false), (Go.Value.int Go.IntKind.i64 0)] r781.2
theorem s37B0eq (x0 x1 x2 x3 x8 x9 x10 : Value) (w : World) (g : Nat → Value) (d : List Deferred) : evK Try.prog 37 none (nav [1, 0, 1, 0, 0] (bodyOf Try.f37)) none _ (frm 55 (setL [0, 1, 2, 3, 8, 9, 10] [x0, x1, x2, x3, x8, x9, x10] g) d) w (projK [0, 1, 2, 3, 8, 9, 10]) = s37B0 [x0, x1, x2, x3, x8, x9, x10] w := by kernel_rfl
theorem s37R0x0eq (x0 x1 x2 x3 x8 x9 x10 : Value) (g : Nat → Value) (w : World) : s37K1 (Exit.exit 0) (frm 55 (setL [0, 1, 2, 3, 8, 9, 10] [x0, x1, x2, x3, x8, x9, x10] g) []) w = s37R0 (Exit.exit 0) [x0, x1, x2, x3, x8, x9, x10] w := by kernel_rfl
theorem s37R0ret_eq (x0 x1 x2 x3 x8 x9 x10 : Value) (g : Nat → Value) (w : World) : s37K1 Exit.ret (frm 55 (setL [0, 1, 2, 3, 8, 9, 10] [x0, x1, x2, x3, x8, x9, x10] g) []) w = s37R0 Exit.ret [x0, x1, x2, x3, x8, x9, x10] w := by kernel_rfl
theorem s37R0of : ∀ (e : Exit) (xs : List Value) (w : World) (g : Nat → Value) (y : _), s37R0 e xs w = some y → s37K1 e (frm 55 (setL [0, 1, 2, 3, 8, 9, 10] xs g) []) w = some y := by
  intro e xs w g y h
  unfold s37R0 at h
  split at h
  · exact (s37R0x0eq _ _ _ _ _ _ _ g _).trans h
  · exact (s37R0ret_eq _ _ _ _ _ _ _ g _).trans h
  · cases h
theorem s37L0of {s0 s1 s2 s3 s4 s5 s6 s7 s8 s9 s10 s11 s12 s13 s14 s15 s16 s17 s18 s19 s20 s21 s22 s23 s24 s25 s26 s27 s28 s29 s30 s31 s32 s33 s34 s35 s36 s37 s38 s39 s40 s41 s42 s43 s44 s45 s46 s47 s48 s49 s50 s51 s52 s53 s54 : Value} {w : World} {r : _} (h : loopR s37B0 s37R0 [s0, s1, s2, s3, s8, s9, s10] w = some r) : s37L0 [s0, s1, s2, s3, s4, s5, s6, s7, s8, s9, s10, s11, s12, s13, s14, s15, s16, s17, s18, s19, s20, s21, s22, s23, s24, s25, s26, s27, s28, s29, s30, s31, s32, s33, s34, s35, s36, s37, s38, s39, s40, s41, s42, s43, s44, s45, s46, s47, s48, s49, s50, s51, s52, s53, s54] [] w = some r :=
  loopN_of (B := s37B0) (R := s37R0) (n := 55) (live := [0, 1, 2, 3, 8, 9, 10]) (fun xs w g y hl h => match xs, hl, h with | [x0, x1, x2, x3, x8, x9, x10], _, h => (s37B0eq x0 x1 x2 x3 x8 x9 x10 w g []).trans h) (by kernel_rfl) (s37R0of) (fun i => ([s0, s1, s2, s3, s4, s5, s6, s7, s8, s9, s10, s11, s12, s13, s14, s15, s16, s17, s18, s19, s20, s21, s22, s23, s24, s25, s26, s27, s28, s29, s30, s31, s32, s33, s34, s35, s36, s37, s38, s39, s40, s41, s42, s43, s44, s45, s46, s47, s48, s49, s50, s51, s52, s53, s54] : List Value).getD i undef) (by kernel_rfl) rfl h
theorem s37eq (x0 x1 x2 x3 : Value) (w : World) : evK Try.prog 37 none (bodyOf Try.f37) none _ { tmps := (([x0, x1, x2, x3] : List Value) ++ List.replicate (55 - 4) undef).toArray, defers := [] } w (leaveK Try.prog Try.f37) = s37raw x0 x1 x2 x3 w := by kernel_rfl
theorem c37 {x0 x1 x2 x3 : Value} {w : World} {r : Value × World} (h : s37 x0 x1 x2 x3 w = some r) : C Try.prog 37 #[x0, x1, x2, x3] w = some r :=
  C_ev follows_all drawLaw (by kernel_rfl) Try.func37 (by rfl) ((s37eq x0 x1 x2 x3 w).trans (show s37raw x0 x1 x2 x3 w = some r from (Ev.bind_mono fun (r781 : Value × World) => (s37L0of)) h))
theorem e37 {x0 x1 x2 x3 : Value} {w : World} {Q : Value × World → Prop} (h : Brings (s37 x0 x1 x2 x3 w) Q) : Brings (Xcall Try.prog (Value.func (Fn.func 37) #[] #[]) #[x0, x1, x2, x3] w) Q :=
  h.call (Xcall_fn Try.func37 (by decide +kernel) (by rfl) _ _ _ w) fun _ h => c37 h

/-! (*lychgate/lychgateref09.Rules).List -/
noncomputable def s38 (x0 : Value) (w : World) : Option (Value × World) :=
  (Qbin Try.prog Go.BinOp.eql 38 x0 (Go.Value.pointer none)).bind fun v816 =>
  condK v816 (
    some ((Go.Value.slice none 0 0), w)
  ) (
    (XbuildSlice Try.prog 33 0 #[] w).bind fun r817 =>
    (Qnil x0).bind fun v818 =>
    (QfieldAddr Try.prog 71 v818 0).bind fun v819 =>
    (Qload Try.prog 33 v819 r817.2).bind fun v820 =>
    (Xbi Try.prog Go.Builtin.append #[33, 33] 33 #[r817.1, v820] r817.2).bind fun r821 =>
    some (r821.1, r821.2)
  )
theorem s38eq (x0 : Value) (w : World) : evK Try.prog 38 none (bodyOf Try.f38) none _ { tmps := (([x0] : List Value) ++ List.replicate (11 - 1) undef).toArray, defers := [] } w (leaveK Try.prog Try.f38) = s38 x0 w := by kernel_rfl
theorem c38 {x0 : Value} {w : World} {r : Value × World} (h : s38 x0 w = some r) : C Try.prog 38 #[x0] w = some r :=
  C_ev follows_all drawLaw (by kernel_rfl) Try.func38 (by rfl) ((s38eq x0 w).trans h)
theorem e38 {x0 : Value} {w : World} {Q : Value × World → Prop} (h : Brings (s38 x0 w) Q) : Brings (Xcall Try.prog (Value.func (Fn.func 38) #[] #[]) #[x0] w) Q :=
  h.call (Xcall_fn Try.func38 (by decide +kernel) (by rfl) _ _ _ w) fun _ h => c38 h

/-! (*lychgate/lychgateref09.Rules).Drop -/
noncomputable def s39 (x0 x1 : Value) (w : World) : Option (Value × World) :=
  (Qbin Try.prog Go.BinOp.eql 38 x0 (Go.Value.pointer none)).bind fun v822 =>
  condK v822 (
    some ((Go.Value.int Go.IntKind.i64 1), w)
  ) (
    (Qbin Try.prog Go.BinOp.lss 3 x1 (Go.Value.int Go.IntKind.i64 0)).bind fun v823 =>
    (guardQ v823 false (Qnil (gv (isB v823 false) x0))).bind fun v824 =>
    (guardQ v823 false (QfieldAddr Try.prog 71 v824 0)).bind fun v825 =>
    (guardQ v823 false (Qload Try.prog 33 v825 w)).bind fun v826 =>
    (guardQ v823 false (Qlen Try.prog #[33] 3 #[v826] w)).bind fun v827 =>
    (guardQ v823 false (Qbin Try.prog Go.BinOp.geq 3 (gv (isB v823 false) x1) v827)).bind fun v828 =>
    (Qpick v823 (Go.Value.bool true) v828).bind fun v829 =>
    condK v829 (
      some ((Go.Value.int Go.IntKind.i64 11), w)
    ) (
      (Qnil x0).bind fun v830 =>
      (QfieldAddr Try.prog 71 v830 0).bind fun v831 =>
      (Qload Try.prog 33 v831 w.drew).bind fun v832 =>
      (Qslice Try.prog 33 v832 none (some x1) none w.drew).bind fun v833 =>
      (Xbi Try.prog Go.Builtin.append #[33, 33] 33 #[(Go.Value.slice none 0 0), v833] w.drew).bind fun r834 =>
      (Qnil x0).bind fun v835 =>
      (QfieldAddr Try.prog 71 v835 0).bind fun v836 =>
      (Qload Try.prog 33 v836 r834.2).bind fun v837 =>
      (Qbin Try.prog Go.BinOp.add 3 x1 (Go.Value.int Go.IntKind.i64 1)).bind fun v838 =>
      (Qslice Try.prog 33 v837 (some v838) none none r834.2).bind fun v839 =>
      (Xbi Try.prog Go.Builtin.append #[33, 33] 33 #[r834.1, v839] r834.2).bind fun r840 =>
      chkK ((Qload Try.prog 33 v836 w.drew = some v837 ∧ Qload Try.prog 33 v836 r834.2 = some v837) ∧ ((Qslice Try.prog 33 v837 (some v838) none none w.drew = some v839 ∧ Qslice Try.prog 33 v837 (some v838) none none r834.2 = some v839) ∧ True)) (
        (Qnil x0).bind fun v841 =>
        (QfieldAddr Try.prog 71 v841 0).bind fun v842 =>
        (Xstore Try.prog 33 v842 r840.1 r840.2).bind fun r843 =>
        some ((Go.Value.int Go.IntKind.i64 0), r843.2)
      )
    )
  )
theorem s39eq (x0 x1 : Value) (w : World) : evK Try.prog 39 none (bodyOf Try.f39) none _ { tmps := (([x0, x1] : List Value) ++ List.replicate (41 - 2) undef).toArray, defers := [] } w (leaveK Try.prog Try.f39) = s39 x0 x1 w := by kernel_rfl
theorem c39 {x0 x1 : Value} {w : World} {r : Value × World} (h : s39 x0 x1 w = some r) : C Try.prog 39 #[x0, x1] w = some r :=
  C_ev follows_all drawLaw (by kernel_rfl) Try.func39 (by rfl) ((s39eq x0 x1 w).trans h)
theorem e39 {x0 x1 : Value} {w : World} {Q : Value × World → Prop} (h : Brings (s39 x0 x1 w) Q) : Brings (Xcall Try.prog (Value.func (Fn.func 39) #[] #[]) #[x0, x1] w) Q :=
  h.call (Xcall_fn Try.func39 (by decide +kernel) (by rfl) _ _ _ w) fun _ h => c39 h

/-! (*lychgate/lychgateref09.Rules).Add -/
noncomputable def s40K0 : Exit → Act → World → Option (Value × World) := seqK (fun a w => evK Try.prog 40 none (nav [1, 1, 1] (bodyOf Try.f40)) none _ a w (leaveK Try.prog Try.f40)) (leaveK Try.prog Try.f40)
noncomputable def s40K1 : Exit → Act → World → Option (Value × World) := blockK 1 s40K0
noncomputable def s40L0 (s : List Value) (d : List Deferred) (w : World) : Option (Value × World) := loopN Try.prog 40 none (nav [1, 1, 0, 1, 0, 0] (bodyOf Try.f40)) s40K1 s d w
noncomputable def s40B0 : List Value → World → Option (Exit × List Value × World)
  | [x0, x3, x4, x5], w =>
    (Qnil x0).bind fun v849 =>
    (QfieldAddr Try.prog 71 v849 0).bind fun v850 =>
    (Qload Try.prog 33 v850 w).bind fun v851 =>
    (Qlen Try.prog #[33] 3 #[v851] w).bind fun v852 =>
    (Qbin Try.prog Go.BinOp.lss 3 x5 v852).bind fun v853 =>
    condK v853 (
      (Qnil x0).bind fun v854 =>
      (QfieldAddr Try.prog 71 v854 0).bind fun v855 =>
      (Qload Try.prog 33 v855 w.drew).bind fun v856 =>
      (QindexAddr Try.prog 33 v856 x5 w.drew).bind fun v857 =>
      (Qload Try.prog 26 v857 w.drew).bind fun v858 =>
      (Qload Try.prog 26 x3 w.drew).bind fun v859 =>
      (Qbin Try.prog Go.BinOp.eql 26 v858 v859).bind fun v860 =>
      chkK True (
        condK v860 (
          some (Exit.ret, [x0, x3, (Go.Value.int Go.IntKind.i64 10), x5], w.drew)
        ) (
          (Qbin Try.prog Go.BinOp.add 3 x5 (Go.Value.int Go.IntKind.i64 1)).bind fun v861 =>
          some (Exit.normal, [x0, x3, x4, v861], w.drew)
        )
      )
    ) (
      some ((Exit.exit 1), [x0, x3, x4, x5], w)
    )
  | _, _ => none
noncomputable def s40R0 : Exit → List Value → World → Option (Value × World)
  | (Exit.exit 1), [x0, x3, _, _], w =>
    (Qnil x0).bind fun v862 =>
    (QfieldAddr Try.prog 71 v862 0).bind fun v863 =>
    (Qload Try.prog 33 v863 w).bind fun v864 =>
    (Qlen Try.prog #[33] 3 #[v864] w).bind fun v865 =>
    (Qbin Try.prog Go.BinOp.geq 3 v865 (Go.Value.int Go.IntKind.i64 32)).bind fun v866 =>
    condK v866 (
      some ((Go.Value.int Go.IntKind.i64 9), w)
    ) (
      (Qnil x0).bind fun v867 =>
      (QfieldAddr Try.prog 71 v867 0).bind fun v868 =>
      (Qload Try.prog 33 v868 w.drew).bind fun v869 =>
      (Qload Try.prog 26 x3 w.drew).bind fun v870 =>
      (XbuildSlice Try.prog 33 1 #[(0, v870)] w.drew).bind fun r871 =>
      (Xbi Try.prog Go.Builtin.append #[33, 33] 33 #[v869, r871.1] r871.2).bind fun r872 =>
      (Qnil x0).bind fun v873 =>
      (QfieldAddr Try.prog 71 v873 0).bind fun v874 =>
      (Xstore Try.prog 33 v874 r872.1 r872.2).bind fun r875 =>
      chkK ((Qload Try.prog 33 v868 w.drew = some v869 ∧ Qload Try.prog 33 v868 r871.2 = some v869) ∧ True) (
        some ((Go.Value.int Go.IntKind.i64 0), r875.2)
      )
    )
  | Exit.ret, [_, _, x4, _], w =>
    some (x4, w)
  | _, _, _ => none
noncomputable def s40raw (x0 x1 : Value) (w : World) : Option (Value × World) :=
  (Xbox Try.prog 26 x1 w).bind fun r844 =>
  (Qbin Try.prog Go.BinOp.eql 38 x0 (Go.Value.pointer none)).bind fun v845 =>
  condK v845 (
    some ((Go.Value.int Go.IntKind.i64 1), r844.2)
  ) (
    (Qload Try.prog 26 r844.1 r844.2).bind fun v846 =>
    (Xcall Try.prog (Value.func (Fn.func 15) #[] #[]) #[v846] r844.2).bind fun r847 =>
    (Qun Go.UnOp.not r847.1).bind fun v848 =>
    condK v848 (
      some ((Go.Value.int Go.IntKind.i64 4), r847.2)
    ) (
      s40L0 [x0, x1, undef, r844.1, (Go.Value.int Go.IntKind.i64 0), (Go.Value.int Go.IntKind.i64 0), v845, x0, v845, v848, v846, r847.1, v848, undef, undef, undef, undef, undef, undef, undef, undef, undef, undef, undef, undef, undef, undef, undef, undef, undef, undef, undef, undef, undef, undef, undef, undef, undef, undef, undef, undef, undef, undef, undef, undef, undef, undef] [] r847.2
    )
  )
noncomputable def s40 (x0 x1 : Value) (w : World) : Option (Value × World) :=
  (Xbox Try.prog 26 x1 w).bind fun r844 =>
  (Qbin Try.prog Go.BinOp.eql 38 x0 (Go.Value.pointer none)).bind fun v845 =>
  condK v845 (
    some ((Go.Value.int Go.IntKind.i64 1), r844.2)
  ) (
    (Qload Try.prog 26 r844.1 r844.2).bind fun v846 =>
    (Xcall Try.prog (Value.func (Fn.func 15) #[] #[]) #[v846] r844.2).bind fun r847 =>
    (Qun Go.UnOp.not r847.1).bind fun v848 =>
    condK v848 (
      some ((Go.Value.int Go.IntKind.i64 4), r847.2)
    ) (
      loopR s40B0 s40R0 [x0, r844.1, (Go.Value.int Go.IntKind.i64 0), (Go.Value.int Go.IntKind.i64 0)] r847.2
    )
  )
theorem s40B0eq (x0 x3 x4 x5 : Value) (w : World) (g : Nat → Value) (d : List Deferred) : evK Try.prog 40 none (nav [1, 1, 0, 1, 0, 0] (bodyOf Try.f40)) none _ (frm 47 (setL [0, 3, 4, 5] [x0, x3, x4, x5] g) d) w (projK [0, 3, 4, 5]) = s40B0 [x0, x3, x4, x5] w := by kernel_rfl
theorem s40R0x1eq (x0 x3 x4 x5 : Value) (g : Nat → Value) (w : World) : s40K1 (Exit.exit 1) (frm 47 (setL [0, 3, 4, 5] [x0, x3, x4, x5] g) []) w = s40R0 (Exit.exit 1) [x0, x3, x4, x5] w := by kernel_rfl
theorem s40R0ret_eq (x0 x3 x4 x5 : Value) (g : Nat → Value) (w : World) : s40K1 Exit.ret (frm 47 (setL [0, 3, 4, 5] [x0, x3, x4, x5] g) []) w = s40R0 Exit.ret [x0, x3, x4, x5] w := by kernel_rfl
theorem s40R0of : ∀ (e : Exit) (xs : List Value) (w : World) (g : Nat → Value) (y : _), s40R0 e xs w = some y → s40K1 e (frm 47 (setL [0, 3, 4, 5] xs g) []) w = some y := by
  intro e xs w g y h
  unfold s40R0 at h
  split at h
  · exact (s40R0x1eq _ _ _ _ g _).trans h
  · exact (s40R0ret_eq _ _ _ _ g _).trans h
  · cases h
theorem s40L0of {s0 s1 s2 s3 s4 s5 s6 s7 s8 s9 s10 s11 s12 s13 s14 s15 s16 s17 s18 s19 s20 s21 s22 s23 s24 s25 s26 s27 s28 s29 s30 s31 s32 s33 s34 s35 s36 s37 s38 s39 s40 s41 s42 s43 s44 s45 s46 : Value} {w : World} {r : _} (h : loopR s40B0 s40R0 [s0, s3, s4, s5] w = some r) : s40L0 [s0, s1, s2, s3, s4, s5, s6, s7, s8, s9, s10, s11, s12, s13, s14, s15, s16, s17, s18, s19, s20, s21, s22, s23, s24, s25, s26, s27, s28, s29, s30, s31, s32, s33, s34, s35, s36, s37, s38, s39, s40, s41, s42, s43, s44, s45, s46] [] w = some r :=
  loopN_of (B := s40B0) (R := s40R0) (n := 47) (live := [0, 3, 4, 5]) (fun xs w g y hl h => match xs, hl, h with | [x0, x3, x4, x5], _, h => (s40B0eq x0 x3 x4 x5 w g []).trans h) (by kernel_rfl) (s40R0of) (fun i => ([s0, s1, s2, s3, s4, s5, s6, s7, s8, s9, s10, s11, s12, s13, s14, s15, s16, s17, s18, s19, s20, s21, s22, s23, s24, s25, s26, s27, s28, s29, s30, s31, s32, s33, s34, s35, s36, s37, s38, s39, s40, s41, s42, s43, s44, s45, s46] : List Value).getD i undef) (by kernel_rfl) rfl h
theorem s40eq (x0 x1 : Value) (w : World) : evK Try.prog 40 none (bodyOf Try.f40) none _ { tmps := (([x0, x1] : List Value) ++ List.replicate (47 - 2) undef).toArray, defers := [] } w (leaveK Try.prog Try.f40) = s40raw x0 x1 w := by kernel_rfl
theorem c40 {x0 x1 : Value} {w : World} {r : Value × World} (h : s40 x0 x1 w = some r) : C Try.prog 40 #[x0, x1] w = some r :=
  C_ev follows_all drawLaw (by kernel_rfl) Try.func40 (by rfl) ((s40eq x0 x1 w).trans (show s40raw x0 x1 w = some r from (Ev.bind_mono fun (r844 : Value × World) => (Ev.bind_mono fun (v845 : Value) => (condK_mono id (Ev.bind_mono fun (v846 : Value) => (Ev.bind_mono fun (r847 : Value × World) => (Ev.bind_mono fun (v848 : Value) => (condK_mono id (s40L0of)))))))) h))
theorem e40 {x0 x1 : Value} {w : World} {Q : Value × World → Prop} (h : Brings (s40 x0 x1 w) Q) : Brings (Xcall Try.prog (Value.func (Fn.func 40) #[] #[]) #[x0, x1] w) Q :=
  h.call (Xcall_fn Try.func40 (by decide +kernel) (by rfl) _ _ _ w) fun _ h => c40 h

/-! slices.Index[[]lychgate/api.Rule,lychgate/api.Rule] -/
noncomputable def s41K0 : Exit → Act → World → Option (Value × World) := seqK (fun a w => evK Try.prog 41 none (nav [1, 1] (bodyOf Try.f41)) none _ a w (leaveK Try.prog Try.f41)) (leaveK Try.prog Try.f41)
noncomputable def s41K1 : Exit → Act → World → Option (Value × World) := blockK 0 s41K0
noncomputable def s41L0 (s : List Value) (d : List Deferred) (w : World) : Option (Value × World) := loopN Try.prog 41 none (nav [1, 0, 1, 0, 0] (bodyOf Try.f41)) s41K1 s d w
noncomputable def s41B0 : List Value → World → Option (Exit × List Value × World)
  | [x0, x3, x4, x7, x8], w =>
    (Qbin Try.prog Go.BinOp.lss 3 x8 x7).bind fun v878 =>
    condK v878 (
      (Qload Try.prog 26 x3 w.drew).bind fun v879 =>
      (QindexAddr Try.prog 33 x0 x8 w.drew).bind fun v880 =>
      (Qload Try.prog 26 v880 w.drew).bind fun v881 =>
      (Qbin Try.prog Go.BinOp.eql 26 v879 v881).bind fun v882 =>
      chkK True (
        condK v882 (
          some (Exit.ret, [x0, x3, x8, x7, x8], w.drew)
        ) (
          (Qbin Try.prog Go.BinOp.add 3 x8 (Go.Value.int Go.IntKind.i64 1)).bind fun v883 =>
          some (Exit.normal, [x0, x3, x4, x7, v883], w.drew)
        )
      )
    ) (
      some ((Exit.exit 0), [x0, x3, x4, x7, x8], w)
    )
  | _, _ => none
noncomputable def s41R0 : Exit → List Value → World → Option (Value × World)
  | (Exit.exit 0), [_, _, _, _, _], w =>
    some ((Go.Value.int Go.IntKind.i64 (-1)), w)
  | Exit.ret, [_, _, x4, _, _], w =>
    some (x4, w)
  | _, _, _ => none
noncomputable def s41raw (x0 x1 : Value) (w : World) : Option (Value × World) :=
  (Xbox Try.prog 26 x1 w).bind fun r876 =>
  (Qlen Try.prog #[33] 3 #[x0] r876.2).bind fun v877 =>
  s41L0 [x0, x1, undef, r876.1, (Go.Value.int Go.IntKind.i64 0), undef, x0, v877, (Go.Value.int Go.IntKind.i64 0), undef, undef, undef, undef, undef, undef, undef, undef, undef, undef] [] r876.2
noncomputable def s41 (x0 x1 : Value) (w : World) : Option (Value × World) :=
  (Xbox Try.prog 26 x1 w).bind fun r876 =>
  (Qlen Try.prog #[33] 3 #[x0] r876.2).bind fun v877 =>
  loopR s41B0 s41R0 [x0, r876.1, (Go.Value.int Go.IntKind.i64 0), v877, (Go.Value.int Go.IntKind.i64 0)] r876.2
theorem s41B0eq (x0 x3 x4 x7 x8 : Value) (w : World) (g : Nat → Value) (d : List Deferred) : evK Try.prog 41 none (nav [1, 0, 1, 0, 0] (bodyOf Try.f41)) none _ (frm 19 (setL [0, 3, 4, 7, 8] [x0, x3, x4, x7, x8] g) d) w (projK [0, 3, 4, 7, 8]) = s41B0 [x0, x3, x4, x7, x8] w := by kernel_rfl
theorem s41R0x0eq (x0 x3 x4 x7 x8 : Value) (g : Nat → Value) (w : World) : s41K1 (Exit.exit 0) (frm 19 (setL [0, 3, 4, 7, 8] [x0, x3, x4, x7, x8] g) []) w = s41R0 (Exit.exit 0) [x0, x3, x4, x7, x8] w := by kernel_rfl
theorem s41R0ret_eq (x0 x3 x4 x7 x8 : Value) (g : Nat → Value) (w : World) : s41K1 Exit.ret (frm 19 (setL [0, 3, 4, 7, 8] [x0, x3, x4, x7, x8] g) []) w = s41R0 Exit.ret [x0, x3, x4, x7, x8] w := by kernel_rfl
theorem s41R0of : ∀ (e : Exit) (xs : List Value) (w : World) (g : Nat → Value) (y : _), s41R0 e xs w = some y → s41K1 e (frm 19 (setL [0, 3, 4, 7, 8] xs g) []) w = some y := by
  intro e xs w g y h
  unfold s41R0 at h
  split at h
  · exact (s41R0x0eq _ _ _ _ _ g _).trans h
  · exact (s41R0ret_eq _ _ _ _ _ g _).trans h
  · cases h
theorem s41L0of {s0 s1 s2 s3 s4 s5 s6 s7 s8 s9 s10 s11 s12 s13 s14 s15 s16 s17 s18 : Value} {w : World} {r : _} (h : loopR s41B0 s41R0 [s0, s3, s4, s7, s8] w = some r) : s41L0 [s0, s1, s2, s3, s4, s5, s6, s7, s8, s9, s10, s11, s12, s13, s14, s15, s16, s17, s18] [] w = some r :=
  loopN_of (B := s41B0) (R := s41R0) (n := 19) (live := [0, 3, 4, 7, 8]) (fun xs w g y hl h => match xs, hl, h with | [x0, x3, x4, x7, x8], _, h => (s41B0eq x0 x3 x4 x7 x8 w g []).trans h) (by kernel_rfl) (s41R0of) (fun i => ([s0, s1, s2, s3, s4, s5, s6, s7, s8, s9, s10, s11, s12, s13, s14, s15, s16, s17, s18] : List Value).getD i undef) (by kernel_rfl) rfl h
theorem s41eq (x0 x1 : Value) (w : World) : evK Try.prog 41 none (bodyOf Try.f41) none _ { tmps := (([x0, x1] : List Value) ++ List.replicate (19 - 2) undef).toArray, defers := [] } w (leaveK Try.prog Try.f41) = s41raw x0 x1 w := by kernel_rfl
theorem c41 {x0 x1 : Value} {w : World} {r : Value × World} (h : s41 x0 x1 w = some r) : C Try.prog 41 #[x0, x1] w = some r :=
  C_ev follows_all drawLaw (by kernel_rfl) Try.func41 (by rfl) ((s41eq x0 x1 w).trans (show s41raw x0 x1 w = some r from (Ev.bind_mono fun (r876 : Value × World) => (Ev.bind_mono fun (v877 : Value) => (s41L0of))) h))
theorem e41 {x0 x1 : Value} {w : World} {Q : Value × World → Prop} (h : Brings (s41 x0 x1 w) Q) : Brings (Xcall Try.prog (Value.func (Fn.func 41) #[] #[]) #[x0, x1] w) Q :=
  h.call (Xcall_fn Try.func41 (by decide +kernel) (by rfl) _ _ _ w) fun _ h => c41 h

/-! (*lychgate/rules.Rules).of$1 -/
noncomputable def s42K0 : Exit → Act → World → Option (Value × World) := blockK 0 (leaveK Try.prog Try.f42)
noncomputable def s42L0 (s : List Value) (d : List Deferred) (w : World) : Option (Value × World) := loopN Try.prog 42 none (nav [1, 1, 0, 0] (bodyOf Try.f42)) s42K0 s d w
noncomputable def s42B0 : List Value → World → Option (Exit × List Value × World)
  | [x0, x2, x11, x12, x13], w =>
    (Qbin Try.prog Go.BinOp.lss 3 x13 x12).bind fun v891 =>
    condK v891 (
      (QindexAddr Try.prog 33 x11 x13 w).bind fun v892 =>
      (Qload Try.prog 26 v892 w).bind fun v893 =>
      (Xalloc Try.prog 26 w).bind fun r894 =>
      (Xstore Try.prog 26 r894.1 v893 r894.2).bind fun r895 =>
      (QfieldAddr Try.prog 26 r894.1 0).bind fun v896 =>
      (Qload Try.prog 22 v896 r895.2).bind fun v897 =>
      (Qload Try.prog 22 x2 r895.2).bind fun v898 =>
      (Qbin Try.prog Go.BinOp.eql 22 v897 v898).bind fun v899 =>
      (guardQ v899 true (Qload Try.prog 26 r894.1 r895.2)).bind fun v900 =>
      (guardX v899 true r895.2 (Xcall Try.prog (gv (isB v899 true) x0) #[v900] r895.2)).bind fun r901 =>
      (guardQ v899 true (Qun Go.UnOp.not r901.1)).bind fun v902 =>
      (Qpick v899 v902 (Go.Value.bool false)).bind fun v903 =>
      condK v903 (
        some (Exit.ret, [x0, x2, x11, x12, x13], r901.2)
      ) (
        (Qbin Try.prog Go.BinOp.add 3 x13 (Go.Value.int Go.IntKind.i64 1)).bind fun v904 =>
        some (Exit.normal, [x0, x2, x11, x12, v904], r901.2)
      )
    ) (
      some ((Exit.exit 0), [x0, x2, x11, x12, x13], w)
    )
  | _, _ => none
noncomputable def s42R0 : Exit → List Value → World → Option (Value × World)
  | (Exit.exit 0), [_, _, _, _, _], w =>
    some ((Value.tuple #[]), w)
  | Exit.ret, [_, _, _, _, _], w =>
    some ((Value.tuple #[]), w)
  | _, _, _ => none
noncomputable def s42raw (x0 x1 x2 : Value) (w : World) : Option (Value × World) :=
  (Qload Try.prog 27 x1 w).bind fun v884 =>
  (Qbin Try.prog Go.BinOp.eql 27 v884 (Go.Value.pointer none)).bind fun v885 =>
  condK v885 (
    some ((Value.tuple #[]), w)
  ) (
    (Qload Try.prog 27 x1 w).bind fun v886 =>
    (Qnil v886).bind fun v887 =>
    (QfieldAddr Try.prog 60 v887 0).bind fun v888 =>
    (Qload Try.prog 33 v888 w).bind fun v889 =>
    (Qlen Try.prog #[33] 3 #[v889] w).bind fun v890 =>
    s42L0 [x0, x1, x2, undef, undef, undef, v884, v885, v886, v887, v888, v889, v890, (Go.Value.int Go.IntKind.i64 0), undef, undef, undef, undef, undef, undef, undef, undef, undef, undef, undef, undef, undef, undef] [] w
  )
noncomputable def s42 (x0 x1 x2 : Value) (w : World) : Option (Value × World) :=
  (Qload Try.prog 27 x1 w).bind fun v884 =>
  (Qbin Try.prog Go.BinOp.eql 27 v884 (Go.Value.pointer none)).bind fun v885 =>
  condK v885 (
    some ((Value.tuple #[]), w)
  ) (
    (Qload Try.prog 27 x1 w).bind fun v886 =>
    (Qnil v886).bind fun v887 =>
    (QfieldAddr Try.prog 60 v887 0).bind fun v888 =>
    (Qload Try.prog 33 v888 w).bind fun v889 =>
    (Qlen Try.prog #[33] 3 #[v889] w).bind fun v890 =>
    loopR s42B0 s42R0 [x0, x2, v889, v890, (Go.Value.int Go.IntKind.i64 0)] w
  )
theorem s42B0eq (x0 x2 x11 x12 x13 : Value) (w : World) (g : Nat → Value) (d : List Deferred) : evK Try.prog 42 none (nav [1, 1, 0, 0] (bodyOf Try.f42)) none _ (frm 28 (setL [0, 2, 11, 12, 13] [x0, x2, x11, x12, x13] g) d) w (projK [0, 2, 11, 12, 13]) = s42B0 [x0, x2, x11, x12, x13] w := by kernel_rfl
theorem s42R0x0eq (x0 x2 x11 x12 x13 : Value) (g : Nat → Value) (w : World) : s42K0 (Exit.exit 0) (frm 28 (setL [0, 2, 11, 12, 13] [x0, x2, x11, x12, x13] g) []) w = s42R0 (Exit.exit 0) [x0, x2, x11, x12, x13] w := by kernel_rfl
theorem s42R0ret_eq (x0 x2 x11 x12 x13 : Value) (g : Nat → Value) (w : World) : s42K0 Exit.ret (frm 28 (setL [0, 2, 11, 12, 13] [x0, x2, x11, x12, x13] g) []) w = s42R0 Exit.ret [x0, x2, x11, x12, x13] w := by kernel_rfl
theorem s42R0of : ∀ (e : Exit) (xs : List Value) (w : World) (g : Nat → Value) (y : _), s42R0 e xs w = some y → s42K0 e (frm 28 (setL [0, 2, 11, 12, 13] xs g) []) w = some y := by
  intro e xs w g y h
  unfold s42R0 at h
  split at h
  · exact (s42R0x0eq _ _ _ _ _ g _).trans h
  · exact (s42R0ret_eq _ _ _ _ _ g _).trans h
  · cases h
theorem s42L0of {s0 s1 s2 s3 s4 s5 s6 s7 s8 s9 s10 s11 s12 s13 s14 s15 s16 s17 s18 s19 s20 s21 s22 s23 s24 s25 s26 s27 : Value} {w : World} {r : _} (h : loopR s42B0 s42R0 [s0, s2, s11, s12, s13] w = some r) : s42L0 [s0, s1, s2, s3, s4, s5, s6, s7, s8, s9, s10, s11, s12, s13, s14, s15, s16, s17, s18, s19, s20, s21, s22, s23, s24, s25, s26, s27] [] w = some r :=
  loopN_of (B := s42B0) (R := s42R0) (n := 28) (live := [0, 2, 11, 12, 13]) (fun xs w g y hl h => match xs, hl, h with | [x0, x2, x11, x12, x13], _, h => (s42B0eq x0 x2 x11 x12 x13 w g []).trans h) (by kernel_rfl) (s42R0of) (fun i => ([s0, s1, s2, s3, s4, s5, s6, s7, s8, s9, s10, s11, s12, s13, s14, s15, s16, s17, s18, s19, s20, s21, s22, s23, s24, s25, s26, s27] : List Value).getD i undef) (by kernel_rfl) rfl h
theorem s42eq (x0 x1 x2 : Value) (w : World) : evK Try.prog 42 none (bodyOf Try.f42) none _ { tmps := (([x0, x1, x2] : List Value) ++ List.replicate (28 - 3) undef).toArray, defers := [] } w (leaveK Try.prog Try.f42) = s42raw x0 x1 x2 w := by kernel_rfl
theorem c42 {x0 x1 x2 : Value} {w : World} {r : Value × World} (h : s42 x0 x1 x2 w = some r) : C Try.prog 42 #[x0, x1, x2] w = some r :=
  C_ev follows_all drawLaw (by kernel_rfl) Try.func42 (by rfl) ((s42eq x0 x1 x2 w).trans (show s42raw x0 x1 x2 w = some r from (Ev.bind_mono fun (v884 : Value) => (Ev.bind_mono fun (v885 : Value) => (condK_mono id (Ev.bind_mono fun (v886 : Value) => (Ev.bind_mono fun (v887 : Value) => (Ev.bind_mono fun (v888 : Value) => (Ev.bind_mono fun (v889 : Value) => (Ev.bind_mono fun (v890 : Value) => (s42L0of))))))))) h))
theorem e42 {x0 x1 x2 : Value} {w : World} {Q : Value × World → Prop} (h : Brings (s42 x0 x1 x2 w) Q) : Brings (Xcall Try.prog (Value.func (Fn.func 42) #[] #[x1, x2]) #[x0] w) Q :=
  h.call (Xcall_fn Try.func42 (by decide +kernel) (by rfl) _ _ _ w) fun _ h => c42 h

end Go.Proofs.Ytiioaklogbjhhaa
