/- The functions of the program, by their texts. -/
import Derived.Test.YtphokckbcmiddaaDoorMFw
namespace Go.Proofs.YtphokckbcmiddaaDoor
open Go Go.Ev
open Go.Proofs
variable {aA aB aC aD aE aF aG aH aI aJ aK aL aM aN aO aP aQ aR aS aT aU aV aW aX aY aZ bA bB bC bD bE bF bG bH bI bJ bK bL bM bN bO bP bQ bR bS bT bU bV bW bX bY bZ cA cB cC cD cE cF cG cH cI cJ cK cL cM cN cO cP cQ cR : Value}
/-! lychgate/lychgatetop.TopLines -/
noncomputable def s9K0 : Exit → Act → World → Option (Value × World) := seqK (fun a w => evK Tryd.prog 9 none (nav [1, 1, 1] (bodyOf Tryd.f9)) none _ a w (leaveK Tryd.prog Tryd.f9)) (leaveK Tryd.prog Tryd.f9)
noncomputable def s9K1 : Exit → Act → World → Option (Value × World) := blockK 0 s9K0
noncomputable def s9L0 (s : List Value) (d : List Deferred) (w : World) : Option (Value × World) := loopN Tryd.prog 9 none (nav [1, 1, 0, 1, 0, 0] (bodyOf Tryd.f9)) s9K1 s d w
noncomputable def s9B0 : List Value → World → Option (Exit × List Value × World)
  | [x2, x3, x4, x6, x7], w =>
    (Qbin Tryd.prog .leq 23 x7 (Value.int .i64 2)).bind fun v13 =>
    condK v13 (
      (XbuildSlice Tryd.prog 46 3 #[(0, (Value.string { data := #[] })), (1, (Value.string { data := #[80, 79, 82, 84, 32] })), (2, (Value.string { data := #[69, 80, 82, 84, 32] }))] w).bind fun r14 =>
      (QindexAddr Tryd.prog 46 r14.1 x7 r14.2).bind fun v15 =>
      (Qload Tryd.prog 9 v15 r14.2).bind fun v16 =>
      (QindexAddr Tryd.prog 44 x3 (Value.int .i64 0) r14.2).bind fun v17 =>
      (Qload Tryd.prog 24 v17 r14.2).bind fun v18 =>
      (QindexAddr Tryd.prog 45 x4 (Value.int .i64 0) r14.2).bind fun v19 =>
      (Qload Tryd.prog 25 v19 r14.2).bind fun v20 =>
      (Xcall Tryd.prog (Value.func (Fn.func 13) #[] #[]) #[x7, v18, v20] r14.2).bind fun r21 =>
      (Xconv Tryd.prog 22 9 r21.1 r21.2).bind fun r22 =>
      (Qbin Tryd.prog .add 9 v16 r22.1).bind fun v23 =>
      (Qbin Tryd.prog .add 9 v23 (Value.string { data := #[13, 10] })).bind fun v24 =>
      (Xconv Tryd.prog 9 22 v24 r22.2).bind fun r25 =>
      (Xcall Tryd.prog (Value.func (Fn.func 10) #[] #[]) #[r25.1, (Value.bool false)] r25.2).bind fun r26 =>
      (Qext r26.1 0).bind fun v27 =>
      (Qext r26.1 1).bind fun v28 =>
      (Xalloc Tryd.prog 27 r26.2).bind fun r29 =>
      (Xstore Tryd.prog 27 r29.1 v27 r29.2).bind fun r30 =>
      (QindexAddr Tryd.prog 44 x3 (Value.int .i64 1) r30.2).bind fun v31 =>
      (Qload Tryd.prog 24 v31 r30.2).bind fun v32 =>
      (QindexAddr Tryd.prog 45 x4 (Value.int .i64 1) r30.2).bind fun v33 =>
      (Qload Tryd.prog 25 v33 r30.2).bind fun v34 =>
      (Xcall Tryd.prog (Value.func (Fn.func 13) #[] #[]) #[x7, v32, v34] r30.2).bind fun r35 =>
      (Qload Tryd.prog 27 r29.1 r35.2).bind fun v36 =>
      (Xcall Tryd.prog (Value.func (Fn.func 14) #[] #[]) #[r25.1, v36, r35.1] r35.2).bind fun r37 =>
      (Xcall Tryd.prog (Value.func (Fn.func 10) #[] #[]) #[r37.1, (Value.bool false)] r37.2).bind fun r38 =>
      (Qext r38.1 0).bind fun v39 =>
      (Qext r38.1 1).bind fun v40 =>
      (Xalloc Tryd.prog 27 r38.2).bind fun r41 =>
      (Xstore Tryd.prog 27 r41.1 v39 r41.2).bind fun r42 =>
      (Xcall Tryd.prog (Value.func (Fn.func 16) #[] #[]) #[] r42.2).bind fun r43 =>
      (QfieldAddr Tryd.prog 27 r29.1 1).bind fun v44 =>
      (Qload Tryd.prog 3 v44 r43.2).bind fun v45 =>
      (Qconv Tryd.prog 3 24 v45).bind fun v46 =>
      (Qbin Tryd.prog .add 24 x2 v46).bind fun v47 =>
      (QfieldAddr Tryd.prog 27 r29.1 2).bind fun v48 =>
      (Qload Tryd.prog 3 v48 r43.2).bind fun v49 =>
      (QfieldAddr Tryd.prog 27 r29.1 1).bind fun v50 =>
      (Qload Tryd.prog 3 v50 r43.2).bind fun v51 =>
      (Qbin Tryd.prog .sub 3 v49 v51).bind fun v52 =>
      (Xcall Tryd.prog (Value.func (Fn.func 17) #[] #[]) #[r43.1, v47, v52, r35.1] r43.2).bind fun r53 =>
      (Qun .not v28).bind fun v54 =>
      (guardQ v54 false (Qun .not (gv (isB v54 false) v40))).bind fun v55 =>
      (Qpick v54 (Value.bool true) v55).bind fun v56 =>
      (guardQ v56 false (QfieldAddr Tryd.prog 27 r29.1 3)).bind fun v57 =>
      (guardQ v56 false (Qload Tryd.prog 24 v57 r53.2)).bind fun v58 =>
      (guardQ v56 false (QindexAddr Tryd.prog 44 x3 (Value.int .i64 0) r53.2)).bind fun v59 =>
      (guardQ v56 false (Qload Tryd.prog 24 v59 r53.2)).bind fun v60 =>
      (guardQ v56 false (Qbin Tryd.prog .neq 24 v58 v60)).bind fun v61 =>
      (Qpick v56 (Value.bool true) v61).bind fun v62 =>
      (guardQ v62 false (QfieldAddr Tryd.prog 27 r29.1 4)).bind fun v63 =>
      (guardQ v62 false (Qload Tryd.prog 25 v63 r53.2)).bind fun v64 =>
      (guardQ v62 false (QindexAddr Tryd.prog 45 x4 (Value.int .i64 0) r53.2)).bind fun v65 =>
      (guardQ v62 false (Qload Tryd.prog 25 v65 r53.2)).bind fun v66 =>
      (guardQ v62 false (Qbin Tryd.prog .neq 25 v64 v66)).bind fun v67 =>
      (Qpick v62 (Value.bool true) v67).bind fun v68 =>
      (guardQ v68 false (QfieldAddr Tryd.prog 27 r41.1 3)).bind fun v69 =>
      (guardQ v68 false (Qload Tryd.prog 24 v69 r53.2)).bind fun v70 =>
      (guardQ v68 false (QindexAddr Tryd.prog 44 x3 (Value.int .i64 1) r53.2)).bind fun v71 =>
      (guardQ v68 false (Qload Tryd.prog 24 v71 r53.2)).bind fun v72 =>
      (guardQ v68 false (Qbin Tryd.prog .neq 24 v70 v72)).bind fun v73 =>
      (Qpick v68 (Value.bool true) v73).bind fun v74 =>
      (guardQ v74 false (QfieldAddr Tryd.prog 27 r41.1 4)).bind fun v75 =>
      (guardQ v74 false (Qload Tryd.prog 25 v75 r53.2)).bind fun v76 =>
      (guardQ v74 false (QindexAddr Tryd.prog 45 x4 (Value.int .i64 1) r53.2)).bind fun v77 =>
      (guardQ v74 false (Qload Tryd.prog 25 v77 r53.2)).bind fun v78 =>
      (guardQ v74 false (Qbin Tryd.prog .neq 25 v76 v78)).bind fun v79 =>
      (Qpick v74 (Value.bool true) v79).bind fun v80 =>
      (guardQ v80 false (QfieldAddr Tryd.prog 27 r41.1 0)).bind fun v81 =>
      (guardQ v80 false (Qload Tryd.prog 23 v81 r53.2)).bind fun v82 =>
      (guardQ v80 false (Qbin Tryd.prog .neq 23 v82 (gv (isB v80 false) x7))).bind fun v83 =>
      (Qpick v80 (Value.bool true) v83).bind fun v84 =>
      (guardQ v84 false (Qbin Tryd.prog .neq 49 (gv (isB v84 false) r53.1) (Value.int .i64 0))).bind fun v85 =>
      (Qpick v84 (Value.bool true) v85).bind fun v86 =>
      condK v86 (
        some (Exit.ret, [x2, x3, x4, (Value.bool false), x7], r53.2)
      ) (
        (Xcall Tryd.prog (Value.func (Fn.func 18) #[] #[]) #[r43.1, x2] r53.2).bind fun r87 =>
        (Qbin Tryd.prog .neq 24 r87.1 x2).bind fun v88 =>
        (guardQ v88 false (Qlen Tryd.prog #[22] 3 #[(gv (isB v88 false) r25.1)] r87.2)).bind fun v89 =>
        (guardQ v88 false (Qconv Tryd.prog 3 24 v89)).bind fun v90 =>
        (guardQ v88 false (Qbin Tryd.prog .add 24 (gv (isB v88 false) x2) v90)).bind fun v91 =>
        (guardX v88 false r87.2 (Xcall Tryd.prog (Value.func (Fn.func 18) #[] #[]) #[(gv (isB v88 false) r43.1), v91] r87.2)).bind fun r92 =>
        (guardQ v88 false (Qlen Tryd.prog #[22] 3 #[(gv (isB v88 false) r37.1)] r92.2)).bind fun v93 =>
        (guardQ v88 false (Qconv Tryd.prog 3 24 v93)).bind fun v94 =>
        (guardQ v88 false (Qbin Tryd.prog .add 24 (gv (isB v88 false) x2) v94)).bind fun v95 =>
        (guardQ v88 false (Qbin Tryd.prog .neq 24 r92.1 v95)).bind fun v96 =>
        (Qpick v88 (Value.bool true) v96).bind fun v97 =>
        condK v97 (
          some (Exit.ret, [x2, x3, x4, (Value.bool false), x7], r92.2)
        ) (
          (Qbin Tryd.prog .add 23 x7 (Value.int .i64 1)).bind fun v98 =>
          some (Exit.normal, [x2, x3, x4, x6, v98], r92.2)
        )
      )
    ) (
      some ((Exit.exit 0), [x2, x3, x4, x6, x7], w)
    )
  | _, _ => none
noncomputable def s9R0 : Exit → List Value → World → Option (Value × World)
  | (Exit.exit 0), [_, _, _, _, _], w =>
    some ((Value.bool true), w)
  | Exit.ret, [_, _, _, x6, _], w =>
    some (x6, w)
  | _, _, _ => none
noncomputable def s9raw (x0 x1 x2 : Value) (w : World) : Option (Value × World) :=
  (Xbox Tryd.prog 44 x0 w).bind fun r1 =>
  (Xbox Tryd.prog 45 x1 r1.2).bind fun r2 =>
  (QindexAddr Tryd.prog 45 r2.1 (Value.int .i64 0) r2.2).bind fun v3 =>
  (Qload Tryd.prog 25 v3 r2.2).bind fun v4 =>
  (Qbin Tryd.prog .eql 25 v4 (Value.int .u16 0)).bind fun v5 =>
  (guardQ v5 false (QindexAddr Tryd.prog 45 r2.1 (Value.int .i64 1) r2.2)).bind fun v6 =>
  (guardQ v5 false (Qload Tryd.prog 25 v6 r2.2)).bind fun v7 =>
  (guardQ v5 false (Qbin Tryd.prog .eql 25 v7 (Value.int .u16 0))).bind fun v8 =>
  (Qpick v5 (Value.bool true) v8).bind fun v9 =>
  condK v9 (
    (Xcall Tryd.prog (Value.func (Fn.func 13) #[] #[]) #[(Value.int .i64 4), (Value.int .u32 0), (Value.int .u16 7)] r2.2).bind fun r10 =>
    (Qlen Tryd.prog #[22] 3 #[r10.1] r10.2).bind fun v11 =>
    (Qbin Tryd.prog .eql 3 v11 (Value.int .i64 1)).bind fun v12 =>
    some (v12, r10.2)
  ) (
    s9L0 [x0, x1, x2, r1.1, r2.1, undef, (Value.bool false), (Value.int .i64 1), undef, undef, undef, undef, undef, undef, undef, undef, undef, undef, v3, v4, v5, v5, v6, v7, v8, v9, undef, undef, undef, undef, undef, undef, undef, undef, undef, undef, undef, undef, undef, undef, undef, undef, undef, undef, undef, undef, undef, undef, undef, undef, undef, undef, undef, undef, undef, undef, undef, undef, undef, undef, undef, undef, undef, undef, undef, undef, undef, undef, undef, undef, undef, undef, undef, undef, undef, undef, undef, undef, undef, undef, undef, undef, undef, undef, undef, undef, undef, undef, undef, undef, undef, undef, undef, undef, undef, undef, undef, undef, undef, undef, undef, undef, undef, undef, undef, undef, undef, undef, undef, undef, undef, undef, undef, undef, undef, undef, undef, undef, undef, undef, undef, undef, undef, undef, undef, undef, undef, undef, undef, undef, undef, undef, undef, undef, undef, undef, undef, undef, undef, undef, undef, undef, undef, undef, undef, undef] [] r2.2
  )
noncomputable def s9 (x0 x1 x2 : Value) (w : World) : Option (Value × World) :=
  (Xbox Tryd.prog 44 x0 w).bind fun r1 =>
  (Xbox Tryd.prog 45 x1 r1.2).bind fun r2 =>
  (QindexAddr Tryd.prog 45 r2.1 (Value.int .i64 0) r2.2).bind fun v3 =>
  (Qload Tryd.prog 25 v3 r2.2).bind fun v4 =>
  (Qbin Tryd.prog .eql 25 v4 (Value.int .u16 0)).bind fun v5 =>
  (guardQ v5 false (QindexAddr Tryd.prog 45 r2.1 (Value.int .i64 1) r2.2)).bind fun v6 =>
  (guardQ v5 false (Qload Tryd.prog 25 v6 r2.2)).bind fun v7 =>
  (guardQ v5 false (Qbin Tryd.prog .eql 25 v7 (Value.int .u16 0))).bind fun v8 =>
  (Qpick v5 (Value.bool true) v8).bind fun v9 =>
  condK v9 (
    (Xcall Tryd.prog (Value.func (Fn.func 13) #[] #[]) #[(Value.int .i64 4), (Value.int .u32 0), (Value.int .u16 7)] r2.2).bind fun r10 =>
    (Qlen Tryd.prog #[22] 3 #[r10.1] r10.2).bind fun v11 =>
    (Qbin Tryd.prog .eql 3 v11 (Value.int .i64 1)).bind fun v12 =>
    some (v12, r10.2)
  ) (
    loopR s9B0 s9R0 [x2, r1.1, r2.1, (Value.bool false), (Value.int .i64 1)] r2.2
  )
theorem s9B0eq (x2 x3 x4 x6 x7 : Value) (w : World) (g : Nat → Value) (d : List Deferred) : evK Tryd.prog 9 none (nav [1, 1, 0, 1, 0, 0] (bodyOf Tryd.f9)) none _ (frm 146 (setL [2, 3, 4, 6, 7] [x2, x3, x4, x6, x7] g) d) w (projK [2, 3, 4, 6, 7]) = s9B0 [x2, x3, x4, x6, x7] w := by kernel_rfl
theorem s9R0x0eq (x2 x3 x4 x6 x7 : Value) (g : Nat → Value) (w : World) : s9K1 (Exit.exit 0) (frm 146 (setL [2, 3, 4, 6, 7] [x2, x3, x4, x6, x7] g) []) w = s9R0 (Exit.exit 0) [x2, x3, x4, x6, x7] w := by kernel_rfl
theorem s9R0ret_eq (x2 x3 x4 x6 x7 : Value) (g : Nat → Value) (w : World) : s9K1 Exit.ret (frm 146 (setL [2, 3, 4, 6, 7] [x2, x3, x4, x6, x7] g) []) w = s9R0 Exit.ret [x2, x3, x4, x6, x7] w := by kernel_rfl
theorem s9R0of : ∀ (e : Exit) (xs : List Value) (w : World) (g : Nat → Value) (y : _), s9R0 e xs w = some y → s9K1 e (frm 146 (setL [2, 3, 4, 6, 7] xs g) []) w = some y := by
  intro e xs w g y h
  unfold s9R0 at h
  split at h
  · exact (s9R0x0eq _ _ _ _ _ g _).trans h
  · exact (s9R0ret_eq _ _ _ _ _ g _).trans h
  · cases h
set_option maxRecDepth 20000 in
theorem s9L0of {aA aB aC aD aE aF aG aH aI aJ aK aL aM aN aO aP aQ aR aS aT aU aV aW aX aY aZ bA bB bC bD bE bF bG bH bI bJ bK bL bM bN bO bP bQ bR bS bT bU bV bW bX bY bZ cA cB cC cD cE cF cG cH cI cJ cK cL cM cN cO cP cQ cR cS cT cU cV cW cX cY cZ dA dB dC dD dE dF dG dH dI dJ dK dL dM dN dO dP dQ dR dS dT dU dV dW dX dY dZ eA eB eC eD eE eF eG eH eI eJ eK eL eM eN eO eP eQ eR eS eT eU eV eW eX eY eZ fA fB fC fD fE fF fG fH fI fJ fK fL fM fN fO fP : Value} {w : World} {r : _} (h : loopR s9B0 s9R0 [aC,aD,aE,aG,aH] w = some r) : s9L0 [aA,aB,aC,aD,aE,aF,aG,aH,aI,aJ,aK,aL,aM,aN,aO,aP,aQ,aR,aS,aT,aU,aV,aW,aX,aY,aZ,bA,bB,bC,bD,bE,bF,bG,bH,bI,bJ,bK,bL,bM,bN,bO,bP,bQ,bR,bS,bT,bU,bV,bW,bX,bY,bZ,cA,cB,cC,cD,cE,cF,cG,cH,cI,cJ,cK,cL,cM,cN,cO,cP,cQ,cR,cS,cT,cU,cV,cW,cX,cY,cZ,dA,dB,dC,dD,dE,dF,dG,dH,dI,dJ,dK,dL,dM,dN,dO,dP,dQ,dR,dS,dT,dU,dV,dW,dX,dY,dZ,eA,eB,eC,eD,eE,eF,eG,eH,eI,eJ,eK,eL,eM,eN,eO,eP,eQ,eR,eS,eT,eU,eV,eW,eX,eY,eZ,fA,fB,fC,fD,fE,fF,fG,fH,fI,fJ,fK,fL,fM,fN,fO,fP] [] w = some r :=
  loopN_of (B := s9B0) (R := s9R0) (n := 146) (live := [2, 3, 4, 6, 7]) (fun xs w g y hl h => match xs, hl, h with | [x2, x3, x4, x6, x7], _, h => (s9B0eq x2 x3 x4 x6 x7 w g []).trans h) (by kernel_rfl) (s9R0of) (fun i => ([aA,aB,aC,aD,aE,aF,aG,aH,aI,aJ,aK,aL,aM,aN,aO,aP,aQ,aR,aS,aT,aU,aV,aW,aX,aY,aZ,bA,bB,bC,bD,bE,bF,bG,bH,bI,bJ,bK,bL,bM,bN,bO,bP,bQ,bR,bS,bT,bU,bV,bW,bX,bY,bZ,cA,cB,cC,cD,cE,cF,cG,cH,cI,cJ,cK,cL,cM,cN,cO,cP,cQ,cR,cS,cT,cU,cV,cW,cX,cY,cZ,dA,dB,dC,dD,dE,dF,dG,dH,dI,dJ,dK,dL,dM,dN,dO,dP,dQ,dR,dS,dT,dU,dV,dW,dX,dY,dZ,eA,eB,eC,eD,eE,eF,eG,eH,eI,eJ,eK,eL,eM,eN,eO,eP,eQ,eR,eS,eT,eU,eV,eW,eX,eY,eZ,fA,fB,fC,fD,fE,fF,fG,fH,fI,fJ,fK,fL,fM,fN,fO,fP] : List Value).getD i undef) (by kernel_rfl) rfl h
theorem s9eq (x0 x1 x2 : Value) (w : World) : evK Tryd.prog 9 none (bodyOf Tryd.f9) none _ { tmps := (([x0, x1, x2] : List Value) ++ List.replicate (146 - 3) undef).toArray, defers := [] } w (leaveK Tryd.prog Tryd.f9) = s9raw x0 x1 x2 w := by kernel_rfl
set_option maxRecDepth 100000 in
theorem c9 {x0 x1 x2 : Value} {w : World} {r : Value × World} (h : s9 x0 x1 x2 w = some r) : C Tryd.prog 9 #[x0, x1, x2] w = some r :=
  C_ev follows_all drawLaw (by kernel_rfl) Tryd.func9 (by rfl) ((s9eq x0 x1 x2 w).trans (show s9raw x0 x1 x2 w = some r from (Ev.bind_mono fun (_ : Value × World) => (Ev.bind_mono fun (_ : Value × World) => (Ev.bind_mono fun (_ : Value) => (Ev.bind_mono fun (_ : Value) => (Ev.bind_mono fun (_ : Value) => (Ev.bind_mono fun (_ : Value) => (Ev.bind_mono fun (_ : Value) => (Ev.bind_mono fun (_ : Value) => (Ev.bind_mono fun (_ : Value) => (condK_mono id (s9L0of))))))))))) h))
theorem e9 {x0 x1 x2 : Value} {w : World} {Q : Value × World → Prop} (h : Brings (s9 x0 x1 x2 w) Q) : Brings (Xcall Tryd.prog (Value.func (Fn.func 9) #[] #[]) #[x0, x1, x2] w) Q :=
  h.call (Xcall_fn Tryd.func9 (by decide +kernel) (by rfl) _ _ _ w) fun _ h => c9 h

/-! lychgate/seqadj.New -/
noncomputable def s16 (w : World) : Option (Value × World) :=
  (Qbuild Tryd.prog 82 #[] w).bind fun v99 =>
  (Xbox Tryd.prog 82 v99 w).bind fun r100 =>
  some (r100.1, r100.2)
theorem s16eq (w : World) : evK Tryd.prog 16 none (bodyOf Tryd.f16) none _ { tmps := (([] : List Value) ++ List.replicate (3 - 0) undef).toArray, defers := [] } w (leaveK Tryd.prog Tryd.f16) = s16  w := by kernel_rfl
theorem c16 {w : World} {r : Value × World} (h : s16  w = some r) : C Tryd.prog 16 #[] w = some r :=
  C_ev follows_all drawLaw (by kernel_rfl) Tryd.func16 (by rfl) ((s16eq  w).trans h)
theorem e16 {w : World} {Q : Value × World → Prop} (h : Brings (s16  w) Q) : Brings (Xcall Tryd.prog (Value.func (Fn.func 16) #[] #[]) #[] w) Q :=
  h.call (Xcall_fn Tryd.func16 (by decide +kernel) (by rfl) _ _ _ w) fun _ h => c16 h

/-! (*lychgate/seqadj.Stream).Add -/
noncomputable def s17K0 : Exit → Act → World → Option (Value × World) := seqK (fun a w => evK Tryd.prog 17 none (nav [1, 1, 1, 1, 1] (bodyOf Tryd.f17)) none _ a w (leaveK Tryd.prog Tryd.f17)) (leaveK Tryd.prog Tryd.f17)
noncomputable def s17J0 (s : List Value) (d : List Deferred) (w : World) : Option (Value × World) := s17K0 .normal ⟨s.toArray, d⟩ w
noncomputable def s17K1 : Exit → Act → World → Option (Value × World) := seqK (fun a w => evK Tryd.prog 17 none (nav [1, 1, 1, 1, 1, 1] (bodyOf Tryd.f17)) none _ a w (leaveK Tryd.prog Tryd.f17)) (leaveK Tryd.prog Tryd.f17)
noncomputable def s17K2 : Exit → Act → World → Option (Value × World) := blockK 0 s17K1
noncomputable def s17G1R (s0 s2 s3 s8 s10 : Value) (d : List Deferred) (w : World) : Exit → Option (Value × World)
  | Exit.normal =>
    (Qnil s0).bind fun v113 =>
    (QfieldAddr Tryd.prog 82 v113 0).bind fun v114 =>
    (Qload Tryd.prog 80 v114 w).bind fun v115 =>
    (Qlen Tryd.prog #[80] 3 #[v115] w).bind fun v116 =>
    (Qbin Tryd.prog .geq 3 v116 (Value.int .i64 8)).bind fun v117 =>
    condK v117 (
      (Xstore Tryd.prog 49 s8 (Value.int .i64 9) w).bind fun r118 =>
      (takeAll Tryd.prog d r118.2).bind fun w_ => ((((Qload Tryd.prog 49 s8 w_).bind fun v => ((some [])).map fun vs => v :: vs)).map oneOf).map fun v => (v, w_)
    ) (
      (QfieldAddr Tryd.prog 85 s10 2).bind fun v119 =>
      (Qload Tryd.prog 24 v119 w).bind fun v120 =>
      (Qlen Tryd.prog #[22] 3 #[s3] w).bind fun v121 =>
      (Qconv Tryd.prog 3 24 v121).bind fun v122 =>
      (Qbin Tryd.prog .add 24 v120 v122).bind fun v123 =>
      (Qconv Tryd.prog 3 24 s2).bind fun v124 =>
      (Qbin Tryd.prog .sub 24 v123 v124).bind fun v125 =>
      (QfieldAddr Tryd.prog 85 s10 3).bind fun v126 =>
      (Xstore Tryd.prog 24 v126 v125 w).bind fun r127 =>
      (Qnil s0).bind fun v128 =>
      (QfieldAddr Tryd.prog 82 v128 0).bind fun v129 =>
      (Qload Tryd.prog 80 v129 r127.2.drew).bind fun v130 =>
      (Qload Tryd.prog 85 s10 r127.2.drew).bind fun v131 =>
      (XbuildSlice Tryd.prog 80 1 #[(0, v131)] r127.2.drew).bind fun r132 =>
      (Xbi Tryd.prog Go.Builtin.append #[80, 80] 80 #[v130, r132.1] r132.2).bind fun r133 =>
      (Qnil s0).bind fun v134 =>
      (QfieldAddr Tryd.prog 82 v134 0).bind fun v135 =>
      (Xstore Tryd.prog 80 v135 r133.1 r133.2).bind fun r136 =>
      chkK ((Qload Tryd.prog 80 v129 r127.2.drew = some v130 ∧ Qload Tryd.prog 80 v129 r132.2 = some v130) ∧ True) (
        (Xstore Tryd.prog 49 s8 (Value.int .i64 0) r136.2).bind fun r137 =>
        (takeAll Tryd.prog d r137.2).bind fun w_ => ((((Qload Tryd.prog 49 s8 w_).bind fun v => ((some [])).map fun vs => v :: vs)).map oneOf).map fun v => (v, w_)
      )
    )
  | (Exit.exit 0) =>
    (Qnil s0).bind fun v138 =>
    (QfieldAddr Tryd.prog 82 v138 0).bind fun v139 =>
    (Qload Tryd.prog 80 v139 w).bind fun v140 =>
    (Qlen Tryd.prog #[80] 3 #[v140] w).bind fun v141 =>
    (Qbin Tryd.prog .geq 3 v141 (Value.int .i64 8)).bind fun v142 =>
    condK v142 (
      (Xstore Tryd.prog 49 s8 (Value.int .i64 9) w).bind fun r143 =>
      (takeAll Tryd.prog d r143.2).bind fun w_ => ((((Qload Tryd.prog 49 s8 w_).bind fun v => ((some [])).map fun vs => v :: vs)).map oneOf).map fun v => (v, w_)
    ) (
      (QfieldAddr Tryd.prog 85 s10 2).bind fun v144 =>
      (Qload Tryd.prog 24 v144 w).bind fun v145 =>
      (Qlen Tryd.prog #[22] 3 #[s3] w).bind fun v146 =>
      (Qconv Tryd.prog 3 24 v146).bind fun v147 =>
      (Qbin Tryd.prog .add 24 v145 v147).bind fun v148 =>
      (Qconv Tryd.prog 3 24 s2).bind fun v149 =>
      (Qbin Tryd.prog .sub 24 v148 v149).bind fun v150 =>
      (QfieldAddr Tryd.prog 85 s10 3).bind fun v151 =>
      (Xstore Tryd.prog 24 v151 v150 w).bind fun r152 =>
      (Qnil s0).bind fun v153 =>
      (QfieldAddr Tryd.prog 82 v153 0).bind fun v154 =>
      (Qload Tryd.prog 80 v154 r152.2.drew).bind fun v155 =>
      (Qload Tryd.prog 85 s10 r152.2.drew).bind fun v156 =>
      (XbuildSlice Tryd.prog 80 1 #[(0, v156)] r152.2.drew).bind fun r157 =>
      (Xbi Tryd.prog Go.Builtin.append #[80, 80] 80 #[v155, r157.1] r157.2).bind fun r158 =>
      (Qnil s0).bind fun v159 =>
      (QfieldAddr Tryd.prog 82 v159 0).bind fun v160 =>
      (Xstore Tryd.prog 80 v160 r158.1 r158.2).bind fun r161 =>
      chkK ((Qload Tryd.prog 80 v154 r152.2.drew = some v155 ∧ Qload Tryd.prog 80 v154 r157.2 = some v155) ∧ True) (
        (Xstore Tryd.prog 49 s8 (Value.int .i64 0) r161.2).bind fun r162 =>
        (takeAll Tryd.prog d r162.2).bind fun w_ => ((((Qload Tryd.prog 49 s8 w_).bind fun v => ((some [])).map fun vs => v :: vs)).map oneOf).map fun v => (v, w_)
      )
    )
  | Exit.ret =>
    (takeAll Tryd.prog d w).bind fun w_ => ((((Qload Tryd.prog 49 s8 w_).bind fun v => ((some [])).map fun vs => v :: vs)).map oneOf).map fun v => (v, w_)
  | _ => none
noncomputable def s17G1Q (l : Nat) (s5 s8 s10 s35 : Value) (w : World) : Option (Value × World) :=
  (Xalloc Tryd.prog 85 w).bind fun r163 =>
  (Xstore Tryd.prog 85 r163.1 s35 r163.2).bind fun r164 =>
  begK Tryd.prog l r164.2 fun w165 =>
  (Qload Tryd.prog 24 s5 w165).bind fun v166 =>
  (QfieldAddr Tryd.prog 85 r163.1 1).bind fun v167 =>
  (Qload Tryd.prog 24 v167 w165).bind fun v168 =>
  (Xcall Tryd.prog (Value.func (Fn.func 39) #[] #[]) #[v166, v168] w165).bind fun r169 =>
  (Qbin Tryd.prog .lss 3 r169.1 (Value.int .i64 0)).bind fun v170 =>
  condK v170 (
    (Xstore Tryd.prog 49 s8 (Value.int .i64 2) r169.2).bind fun r171 =>
    endR Tryd.prog l (some Code.ret) r171.2
  ) (
    (QfieldAddr Tryd.prog 85 r163.1 3).bind fun v172 =>
    (Qload Tryd.prog 24 v172 r169.2).bind fun v173 =>
    (QfieldAddr Tryd.prog 85 s10 2).bind fun v174 =>
    (Xstore Tryd.prog 24 v174 v173 r169.2).bind fun r175 =>
    endR Tryd.prog l (some (Code.exit 0)) r175.2
  )
noncomputable def s17M0raw (aA aB aC aD aE aF aG aH aI aJ aK aL aM aN aO aP aQ aR aS aT aU aV aW aX aY aZ bA bB bC bD bE bF bG _ _ bJ bK bL bM bN bO bP bQ bR bS bT bU bV bW bX bY bZ cA cB cC cD cE cF cG cH cI cJ cK cL cM cN cO cP cQ cR : Value) (d : List Deferred) (w : World) : Option (Value × World) :=
  (Xcall Tryd.prog (Value.func (Fn.func 38) #[] #[]) #[aA] w).bind fun r112 =>
  (evRange Tryd.prog 17 none r112.1 #[35] (nav [1, 1, 1, 1, 1, 0, 1, 0, 0] (bodyOf Tryd.f17)) (nav [1, 1, 1, 1, 1, 0, 1, 0, 1] (bodyOf Tryd.f17)) ⟨[aA,aB,aC,aD,aE,aF,aG,aH,aI,aJ,aK,aL,aM,aN,aO,aP,aQ,aR,aS,aT,aU,aV,aW,aX,aY,aZ,bA,bB,bC,bD,bE,bF,bG,aA, r112.1, bJ,bK,bL,bM,bN,bO,bP,bQ,bR,bS,bT,bU,bV,bW,bX,bY,bZ,cA,cB,cC,cD,cE,cF,cG,cH,cI,cJ,cK,cL,cM,cN,cO,cP,cQ,cR].toArray, d⟩ r112.2).bind fun x => s17K2 x.1 x.2.1 x.2.2
noncomputable def s17M0 (aA aB aC aD aE aF aG aH aI aJ aK aL aM aN aO aP aQ aR aS aT aU aV aW aX aY aZ bA bB bC bD bE bF bG _ _ bJ bK bL bM bN bO bP bQ bR bS bT bU bV bW bX bY bZ cA cB cC cD cE cF cG cH cI cJ cK cL cM cN cO cP cQ cR : Value) (d : List Deferred) (w : World) : Option (Value × World) :=
  (Xcall Tryd.prog (Value.func (Fn.func 38) #[] #[]) #[aA] w).bind fun r112 =>
  (evRange Tryd.prog 17 none r112.1 #[35] (nav [1, 1, 1, 1, 1, 0, 1, 0, 0] (bodyOf Tryd.f17)) (nav [1, 1, 1, 1, 1, 0, 1, 0, 1] (bodyOf Tryd.f17)) ⟨[aA,aB,aC,aD,aE,aF,aG,aH,aI,aJ,aK,aL,aM,aN,aO,aP,aQ,aR,aS,aT,aU,aV,aW,aX,aY,aZ,bA,bB,bC,bD,bE,bF,bG,aA, r112.1, bJ,bK,bL,bM,bN,bO,bP,bQ,bR,bS,bT,bU,bV,bW,bX,bY,bZ,cA,cB,cC,cD,cE,cF,cG,cH,cI,cJ,cK,cL,cM,cN,cO,cP,cQ,cR].toArray, d⟩ r112.2).bind fun x => s17G1R aA aC aD aI aK x.2.1.defers x.2.2 x.1
noncomputable def s17raw (x0 x1 x2 x3 : Value) (w : World) : Option (Value × World) :=
  (Xbox Tryd.prog 24 x1 w).bind fun r101 =>
  (Xalloc Tryd.prog 49 r101.2).bind fun r102 =>
  (Qbin Tryd.prog .eql 47 x0 (Value.pointer none)).bind fun v103 =>
  condK v103 (
    (Xstore Tryd.prog 49 r102.1 (Value.int .i64 1) r102.2).bind fun r104 =>
    ((((Qload Tryd.prog 49 r102.1 r104.2).bind fun v => ((some [])).map fun vs => v :: vs)).map oneOf).map fun v => (v, r104.2)
  ) (
    (Xcall Tryd.prog (Value.func (Fn.func 37) #[] #[]) #[x2] r102.2).bind fun r105 =>
    (Qun .not r105.1).bind fun v106 =>
    (guardQ v106 false (Qlen Tryd.prog #[22] 3 #[(gv (isB v106 false) x3)] r105.2)).bind fun v107 =>
    (guardX v106 false r105.2 (Xcall Tryd.prog (gv (isB v106 false) (Value.func (Fn.func 37) #[] #[])) #[v107] r105.2)).bind fun r108 =>
    (guardQ v106 false (Qun .not r108.1)).bind fun v109 =>
    (Qpick v106 (Value.bool true) v109).bind fun v110 =>
    condK v110 (
      (Xstore Tryd.prog 49 r102.1 (Value.int .i64 2) r108.2).bind fun r111 =>
      ((((Qload Tryd.prog 49 r102.1 r111.2).bind fun v => ((some [])).map fun vs => v :: vs)).map oneOf).map fun v => (v, r111.2)
    ) (
      evDraw Tryd.prog 17 6 (opsOf (nav [1, 1, 1, 1, 0] (bodyOf Tryd.f17))) ⟨[x0, x1, x2, x3, undef, r101.1, undef, undef, r102.1, (Value.func (Fn.func 37) #[] #[]), undef, undef, x0, v103, (Value.func (Fn.func 37) #[] #[]), x2, r105.1, v106, v106, (gv (isB v106 false) (Value.func (Fn.func 37) #[] #[])), (gv (isB v106 false) x3), v107, r108.1, v109, v110, undef, undef, undef, undef, undef, undef, undef, undef, undef, undef, undef, undef, undef, undef, undef, undef, undef, undef, undef, undef, undef, undef, undef, undef, undef, undef, undef, undef, undef, undef, undef, undef, undef, undef, undef, undef, undef, undef, undef, undef, undef, undef, undef, undef, undef].toArray, []⟩ r108.2 (fun a w => s17K0 .normal a w)
    )
  )
noncomputable def s17 (x0 x1 x2 x3 : Value) (w : World) : Option (Value × World) :=
  (Xbox Tryd.prog 24 x1 w).bind fun r101 =>
  (Xalloc Tryd.prog 49 r101.2).bind fun r102 =>
  (Qbin Tryd.prog .eql 47 x0 (Value.pointer none)).bind fun v103 =>
  condK v103 (
    (Xstore Tryd.prog 49 r102.1 (Value.int .i64 1) r102.2).bind fun r104 =>
    ((((Qload Tryd.prog 49 r102.1 r104.2).bind fun v => ((some [])).map fun vs => v :: vs)).map oneOf).map fun v => (v, r104.2)
  ) (
    (Xcall Tryd.prog (Value.func (Fn.func 37) #[] #[]) #[x2] r102.2).bind fun r105 =>
    (Qun .not r105.1).bind fun v106 =>
    (guardQ v106 false (Qlen Tryd.prog #[22] 3 #[(gv (isB v106 false) x3)] r105.2)).bind fun v107 =>
    (guardX v106 false r105.2 (Xcall Tryd.prog (gv (isB v106 false) (Value.func (Fn.func 37) #[] #[])) #[v107] r105.2)).bind fun r108 =>
    (guardQ v106 false (Qun .not r108.1)).bind fun v109 =>
    (Qpick v106 (Value.bool true) v109).bind fun v110 =>
    condK v110 (
      (Xstore Tryd.prog 49 r102.1 (Value.int .i64 2) r108.2).bind fun r111 =>
      ((((Qload Tryd.prog 49 r102.1 r111.2).bind fun v => ((some [])).map fun vs => v :: vs)).map oneOf).map fun v => (v, r111.2)
    ) (
      (evIdx Tryd.prog (opsOf (nav [1, 1, 1, 1, 0] (bodyOf Tryd.f17))) (Region.linearise .any (opsOf (nav [1, 1, 1, 1, 0] (bodyOf Tryd.f17))) (r108.2.tape r108.2.drawn (.order 17 6))) ⟨[x0, x1, x2, x3, undef, r101.1, undef, undef, r102.1, (Value.func (Fn.func 37) #[] #[]), undef, undef, x0, v103, (Value.func (Fn.func 37) #[] #[]), x2, r105.1, v106, v106, (gv (isB v106 false) (Value.func (Fn.func 37) #[] #[])), (gv (isB v106 false) x3), v107, r108.1, v109, v110, undef, undef, undef, undef, undef, undef, undef, undef, undef, undef, undef, undef, undef, undef, undef, undef, undef, undef, undef, undef, undef, undef, undef, undef, undef, undef, undef, undef, undef, undef, undef, undef, undef, undef, undef, undef, undef, undef, undef, undef, undef, undef, undef, undef, undef].toArray, []⟩ r108.2.drew).bind fun x => s17M0 (x.1.tmps.getD 0 undef) (x.1.tmps.getD 1 undef) (x.1.tmps.getD 2 undef) (x.1.tmps.getD 3 undef) (x.1.tmps.getD 4 undef) (x.1.tmps.getD 5 undef) (x.1.tmps.getD 6 undef) (x.1.tmps.getD 7 undef) (x.1.tmps.getD 8 undef) (x.1.tmps.getD 9 undef) (x.1.tmps.getD 10 undef) (x.1.tmps.getD 11 undef) (x.1.tmps.getD 12 undef) (x.1.tmps.getD 13 undef) (x.1.tmps.getD 14 undef) (x.1.tmps.getD 15 undef) (x.1.tmps.getD 16 undef) (x.1.tmps.getD 17 undef) (x.1.tmps.getD 18 undef) (x.1.tmps.getD 19 undef) (x.1.tmps.getD 20 undef) (x.1.tmps.getD 21 undef) (x.1.tmps.getD 22 undef) (x.1.tmps.getD 23 undef) (x.1.tmps.getD 24 undef) (x.1.tmps.getD 25 undef) (x.1.tmps.getD 26 undef) (x.1.tmps.getD 27 undef) (x.1.tmps.getD 28 undef) (x.1.tmps.getD 29 undef) (x.1.tmps.getD 30 undef) (x.1.tmps.getD 31 undef) (x.1.tmps.getD 32 undef) (x.1.tmps.getD 33 undef) (x.1.tmps.getD 34 undef) (x.1.tmps.getD 35 undef) (x.1.tmps.getD 36 undef) (x.1.tmps.getD 37 undef) (x.1.tmps.getD 38 undef) (x.1.tmps.getD 39 undef) (x.1.tmps.getD 40 undef) (x.1.tmps.getD 41 undef) (x.1.tmps.getD 42 undef) (x.1.tmps.getD 43 undef) (x.1.tmps.getD 44 undef) (x.1.tmps.getD 45 undef) (x.1.tmps.getD 46 undef) (x.1.tmps.getD 47 undef) (x.1.tmps.getD 48 undef) (x.1.tmps.getD 49 undef) (x.1.tmps.getD 50 undef) (x.1.tmps.getD 51 undef) (x.1.tmps.getD 52 undef) (x.1.tmps.getD 53 undef) (x.1.tmps.getD 54 undef) (x.1.tmps.getD 55 undef) (x.1.tmps.getD 56 undef) (x.1.tmps.getD 57 undef) (x.1.tmps.getD 58 undef) (x.1.tmps.getD 59 undef) (x.1.tmps.getD 60 undef) (x.1.tmps.getD 61 undef) (x.1.tmps.getD 62 undef) (x.1.tmps.getD 63 undef) (x.1.tmps.getD 64 undef) (x.1.tmps.getD 65 undef) (x.1.tmps.getD 66 undef) (x.1.tmps.getD 67 undef) (x.1.tmps.getD 68 undef) (x.1.tmps.getD 69 undef) [] x.2
    )
  )
theorem s17G1Rnrmeq (aA aB aC aD aE aF aG aH aI aJ aK aL aM aN aO aP aQ aR aS aT aU aV aW aX aY aZ bA bB bC bD bE bF bG bH bI bJ bK bL bM bN bO bP bQ bR bS bT bU bV bW bX bY bZ cA cB cC cD cE cF cG cH cI cJ cK cL cM cN cO cP cQ cR : Value) (d : List Deferred) (w : World) : s17K2 Exit.normal ⟨[aA,aB,aC,aD,aE,aF,aG,aH,aI,aJ,aK,aL,aM,aN,aO,aP,aQ,aR,aS,aT,aU,aV,aW,aX,aY,aZ,bA,bB,bC,bD,bE,bF,bG,bH,bI,bJ,bK,bL,bM,bN,bO,bP,bQ,bR,bS,bT,bU,bV,bW,bX,bY,bZ,cA,cB,cC,cD,cE,cF,cG,cH,cI,cJ,cK,cL,cM,cN,cO,cP,cQ,cR].toArray, d⟩ w = s17G1R aA aC aD aI aK d w Exit.normal := by kernel_rfl
theorem s17G1Rx0eq (aA aB aC aD aE aF aG aH aI aJ aK aL aM aN aO aP aQ aR aS aT aU aV aW aX aY aZ bA bB bC bD bE bF bG bH bI bJ bK bL bM bN bO bP bQ bR bS bT bU bV bW bX bY bZ cA cB cC cD cE cF cG cH cI cJ cK cL cM cN cO cP cQ cR : Value) (d : List Deferred) (w : World) : s17K2 (Exit.exit 0) ⟨[aA,aB,aC,aD,aE,aF,aG,aH,aI,aJ,aK,aL,aM,aN,aO,aP,aQ,aR,aS,aT,aU,aV,aW,aX,aY,aZ,bA,bB,bC,bD,bE,bF,bG,bH,bI,bJ,bK,bL,bM,bN,bO,bP,bQ,bR,bS,bT,bU,bV,bW,bX,bY,bZ,cA,cB,cC,cD,cE,cF,cG,cH,cI,cJ,cK,cL,cM,cN,cO,cP,cQ,cR].toArray, d⟩ w = s17G1R aA aC aD aI aK d w (Exit.exit 0) := by kernel_rfl
theorem s17G1Rreteq (aA aB aC aD aE aF aG aH aI aJ aK aL aM aN aO aP aQ aR aS aT aU aV aW aX aY aZ bA bB bC bD bE bF bG bH bI bJ bK bL bM bN bO bP bQ bR bS bT bU bV bW bX bY bZ cA cB cC cD cE cF cG cH cI cJ cK cL cM cN cO cP cQ cR : Value) (d : List Deferred) (w : World) : s17K2 Exit.ret ⟨[aA,aB,aC,aD,aE,aF,aG,aH,aI,aJ,aK,aL,aM,aN,aO,aP,aQ,aR,aS,aT,aU,aV,aW,aX,aY,aZ,bA,bB,bC,bD,bE,bF,bG,bH,bI,bJ,bK,bL,bM,bN,bO,bP,bQ,bR,bS,bT,bU,bV,bW,bX,bY,bZ,cA,cB,cC,cD,cE,cF,cG,cH,cI,cJ,cK,cL,cM,cN,cO,cP,cQ,cR].toArray, d⟩ w = s17G1R aA aC aD aI aK d w Exit.ret := by kernel_rfl
theorem s17G1Rof {aA aB aC aD aE aF aG aH aI aJ aK aL aM aN aO aP aQ aR aS aT aU aV aW aX aY aZ bA bB bC bD bE bF bG bH bI bJ bK bL bM bN bO bP bQ bR bS bT bU bV bW bX bY bZ cA cB cC cD cE cF cG cH cI cJ cK cL cM cN cO cP cQ cR : Value} {d : List Deferred} {w : World} {e : Exit} {y : _} (h : s17G1R aA aC aD aI aK d w e = some y) : s17K2 e ⟨[aA,aB,aC,aD,aE,aF,aG,aH,aI,aJ,aK,aL,aM,aN,aO,aP,aQ,aR,aS,aT,aU,aV,aW,aX,aY,aZ,bA,bB,bC,bD,bE,bF,bG,bH,bI,bJ,bK,bL,bM,bN,bO,bP,bQ,bR,bS,bT,bU,bV,bW,bX,bY,bZ,cA,cB,cC,cD,cE,cF,cG,cH,cI,cJ,cK,cL,cM,cN,cO,cP,cQ,cR].toArray, d⟩ w = some y := by
  unfold s17G1R at h
  split at h
  · exact (s17G1Rnrmeq _ _ _ _ _ _ _ _ _ _ _ _ _ _ _ _ _ _ _ _ _ _ _ _ _ _ _ _ _ _ _ _ _ _ _ _ _ _ _ _ _ _ _ _ _ _ _ _ _ _ _ _ _ _ _ _ _ _ _ _ _ _ _ _ _ _ _ _ _ _ _ _).trans h
  · exact (s17G1Rx0eq _ _ _ _ _ _ _ _ _ _ _ _ _ _ _ _ _ _ _ _ _ _ _ _ _ _ _ _ _ _ _ _ _ _ _ _ _ _ _ _ _ _ _ _ _ _ _ _ _ _ _ _ _ _ _ _ _ _ _ _ _ _ _ _ _ _ _ _ _ _ _ _).trans h
  · exact (s17G1Rreteq _ _ _ _ _ _ _ _ _ _ _ _ _ _ _ _ _ _ _ _ _ _ _ _ _ _ _ _ _ _ _ _ _ _ _ _ _ _ _ _ _ _ _ _ _ _ _ _ _ _ _ _ _ _ _ _ _ _ _ _ _ _ _ _ _ _ _ _ _ _ _ _).trans h
  · cases h
theorem s17G1Qeq (l : Nat) (s0 s1 s2 s3 s4 s5 s6 s7 s8 s9 s10 s11 s12 s13 s14 s15 s16 s17 s18 s19 s20 s21 s22 s23 s24 s25 s26 s27 s28 s29 s30 s31 s32 s33 s34 s35 s36 s37 s38 s39 s40 s41 s42 s43 s44 s45 s46 s47 s48 s49 s50 s51 s52 s53 s54 s55 s56 s57 s58 s59 s60 s61 s62 s63 s64 s65 s66 s67 s68 s69 : Value) (w : World) : roundE Tryd.prog l 17 [s0, s1, s2, s3, s4, s5, s6, s7, s8, s9, s10, s11, s12, s13, s14, s15, s16, s17, s18, s19, s20, s21, s22, s23, s24, s25, s26, s27, s28, s29, s30, s31, s32, s33, s34, s35, s36, s37, s38, s39, s40, s41, s42, s43, s44, s45, s46, s47, s48, s49, s50, s51, s52, s53, s54, s55, s56, s57, s58, s59, s60, s61, s62, s63, s64, s65, s66, s67, s68, s69].toArray (nav [1, 1, 1, 1, 1, 0, 1, 0, 0] (bodyOf Tryd.f17)) (nav [1, 1, 1, 1, 1, 0, 1, 0, 1] (bodyOf Tryd.f17)) w = s17G1Q l s5 s8 s10 s35 w := by kernel_rfl
theorem s17G1Qof {l : Nat} {s0 s1 s2 s3 s4 s5 s6 s7 s8 s9 s10 s11 s12 s13 s14 s15 s16 s17 s18 s19 s20 s21 s22 s23 s24 s25 s26 s27 s28 s29 s30 s31 s32 s33 s34 s35 s36 s37 s38 s39 s40 s41 s42 s43 s44 s45 s46 s47 s48 s49 s50 s51 s52 s53 s54 s55 s56 s57 s58 s59 s60 s61 s62 s63 s64 s65 s66 s67 s68 s69 : Value} {w : World} {r : Value × World} (h : s17G1Q l s5 s8 s10 s35 w = some r) : Rd Tryd.prog l 17 [s0, s1, s2, s3, s4, s5, s6, s7, s8, s9, s10, s11, s12, s13, s14, s15, s16, s17, s18, s19, s20, s21, s22, s23, s24, s25, s26, s27, s28, s29, s30, s31, s32, s33, s34, s35, s36, s37, s38, s39, s40, s41, s42, s43, s44, s45, s46, s47, s48, s49, s50, s51, s52, s53, s54, s55, s56, s57, s58, s59, s60, s61, s62, s63, s64, s65, s66, s67, s68, s69].toArray (nav [1, 1, 1, 1, 1, 0, 1, 0, 0] (bodyOf Tryd.f17)) (nav [1, 1, 1, 1, 1, 0, 1, 0, 1] (bodyOf Tryd.f17)) w = some r :=
  Rd_ev follows_all drawLaw (by kernel_rfl) ((s17G1Qeq l s0 s1 s2 s3 s4 s5 s6 s7 s8 s9 s10 s11 s12 s13 s14 s15 s16 s17 s18 s19 s20 s21 s22 s23 s24 s25 s26 s27 s28 s29 s30 s31 s32 s33 s34 s35 s36 s37 s38 s39 s40 s41 s42 s43 s44 s45 s46 s47 s48 s49 s50 s51 s52 s53 s54 s55 s56 s57 s58 s59 s60 s61 s62 s63 s64 s65 s66 s67 s68 s69 w).trans h)
theorem s17G1Qb {l : Nat} {s0 s1 s2 s3 s4 s5 s6 s7 s8 s9 s10 s11 s12 s13 s14 s15 s16 s17 s18 s19 s20 s21 s22 s23 s24 s25 s26 s27 s28 s29 s30 s31 s32 s33 s34 s35 s36 s37 s38 s39 s40 s41 s42 s43 s44 s45 s46 s47 s48 s49 s50 s51 s52 s53 s54 s55 s56 s57 s58 s59 s60 s61 s62 s63 s64 s65 s66 s67 s68 s69 : Value} {w : World} {Q : Value × World → Prop} (h : Brings (s17G1Q l s5 s8 s10 s35 w) Q) : Brings (Rd Tryd.prog l 17 [s0, s1, s2, s3, s4, s5, s6, s7, s8, s9, s10, s11, s12, s13, s14, s15, s16, s17, s18, s19, s20, s21, s22, s23, s24, s25, s26, s27, s28, s29, s30, s31, s32, s33, s34, s35, s36, s37, s38, s39, s40, s41, s42, s43, s44, s45, s46, s47, s48, s49, s50, s51, s52, s53, s54, s55, s56, s57, s58, s59, s60, s61, s62, s63, s64, s65, s66, s67, s68, s69].toArray (nav [1, 1, 1, 1, 1, 0, 1, 0, 0] (bodyOf Tryd.f17)) (nav [1, 1, 1, 1, 1, 0, 1, 0, 1] (bodyOf Tryd.f17)) w) Q := h.of_eq fun _ h => s17G1Qof h
set_option maxRecDepth 100000 in
theorem s17J0eq (aA aB aC aD aE aF aG aH aI aJ aK aL aM aN aO aP aQ aR aS aT aU aV aW aX aY aZ bA bB bC bD bE bF bG bH bI bJ bK bL bM bN bO bP bQ bR bS bT bU bV bW bX bY bZ cA cB cC cD cE cF cG cH cI cJ cK cL cM cN cO cP cQ cR : Value) (d : List Deferred) (w : World) : s17J0 [aA,aB,aC,aD,aE,aF,aG,aH,aI,aJ,aK,aL,aM,aN,aO,aP,aQ,aR,aS,aT,aU,aV,aW,aX,aY,aZ,bA,bB,bC,bD,bE,bF,bG,bH,bI,bJ,bK,bL,bM,bN,bO,bP,bQ,bR,bS,bT,bU,bV,bW,bX,bY,bZ,cA,cB,cC,cD,cE,cF,cG,cH,cI,cJ,cK,cL,cM,cN,cO,cP,cQ,cR] d w = s17M0raw aA aB aC aD aE aF aG aH aI aJ aK aL aM aN aO aP aQ aR aS aT aU aV aW aX aY aZ bA bB bC bD bE bF bG bH bI bJ bK bL bM bN bO bP bQ bR bS bT bU bV bW bX bY bZ cA cB cC cD cE cF cG cH cI cJ cK cL cM cN cO cP cQ cR d w := (show s17J0 [aA,aB,aC,aD,aE,aF,aG,aH,aI,aJ,aK,aL,aM,aN,aO,aP,aQ,aR,aS,aT,aU,aV,aW,aX,aY,aZ,bA,bB,bC,bD,bE,bF,bG,bH,bI,bJ,bK,bL,bM,bN,bO,bP,bQ,bR,bS,bT,bU,bV,bW,bX,bY,bZ,cA,cB,cC,cD,cE,cF,cG,cH,cI,cJ,cK,cL,cM,cN,cO,cP,cQ,cR] d w = evK Tryd.prog 17 none (nav [1, 1, 1, 1, 1] (bodyOf Tryd.f17)) none _ ⟨[aA,aB,aC,aD,aE,aF,aG,aH,aI,aJ,aK,aL,aM,aN,aO,aP,aQ,aR,aS,aT,aU,aV,aW,aX,aY,aZ,bA,bB,bC,bD,bE,bF,bG,bH,bI,bJ,bK,bL,bM,bN,bO,bP,bQ,bR,bS,bT,bU,bV,bW,bX,bY,bZ,cA,cB,cC,cD,cE,cF,cG,cH,cI,cJ,cK,cL,cM,cN,cO,cP,cQ,cR].toArray, d⟩ w (leaveK Tryd.prog Tryd.f17) from by kernel_rfl).trans (by kernel_rfl)
set_option maxRecDepth 100000 in
theorem s17J0of {d : List Deferred} {w : World} {r : _} (h : s17M0 aA aB aC aD aE aF aG aH aI aJ aK aL aM aN aO aP aQ aR aS aT aU aV aW aX aY aZ bA bB bC bD bE bF bG bH bI bJ bK bL bM bN bO bP bQ bR bS bT bU bV bW bX bY bZ cA cB cC cD cE cF cG cH cI cJ cK cL cM cN cO cP cQ cR d w = some r) : s17J0 [aA,aB,aC,aD,aE,aF,aG,aH,aI,aJ,aK,aL,aM,aN,aO,aP,aQ,aR,aS,aT,aU,aV,aW,aX,aY,aZ,bA,bB,bC,bD,bE,bF,bG,bH,bI,bJ,bK,bL,bM,bN,bO,bP,bQ,bR,bS,bT,bU,bV,bW,bX,bY,bZ,cA,cB,cC,cD,cE,cF,cG,cH,cI,cJ,cK,cL,cM,cN,cO,cP,cQ,cR] d w = some r :=
  ((s17J0eq aA aB aC aD aE aF aG aH aI aJ aK aL aM aN aO aP aQ aR aS aT aU aV aW aX aY aZ bA bB bC bD bE bF bG bH bI bJ bK bL bM bN bO bP bQ bR bS bT bU bV bW bX bY bZ cA cB cC cD cE cF cG cH cI cJ cK cL cM cN cO cP cQ cR d w).trans ((Ev.bind_mono fun (_ : Value × World) => (range_of (R := fun e d w => s17G1R aA aC aD aI aK d w e) (fun e d w y h => s17G1Rof h))) h))
theorem s17J0fr (g : Nat → Value) (d : List Deferred) (w : World) : s17K0 .normal (frm 70 g d) w = s17J0 [g 0, g 1, g 2, g 3, g 4, g 5, g 6, g 7, g 8, g 9, g 10, g 11, g 12, g 13, g 14, g 15, g 16, g 17, g 18, g 19, g 20, g 21, g 22, g 23, g 24, g 25, g 26, g 27, g 28, g 29, g 30, g 31, g 32, g 33, g 34, g 35, g 36, g 37, g 38, g 39, g 40, g 41, g 42, g 43, g 44, g 45, g 46, g 47, g 48, g 49, g 50, g 51, g 52, g 53, g 54, g 55, g 56, g 57, g 58, g 59, g 60, g 61, g 62, g 63, g 64, g 65, g 66, g 67, g 68, g 69] d w := by kernel_rfl
theorem s17eq (x0 x1 x2 x3 : Value) (w : World) : evK Tryd.prog 17 none (bodyOf Tryd.f17) none _ { tmps := (([x0, x1, x2, x3] : List Value) ++ List.replicate (70 - 4) undef).toArray, defers := [] } w (leaveK Tryd.prog Tryd.f17) = s17raw x0 x1 x2 x3 w := by kernel_rfl
set_option maxRecDepth 100000 in
theorem c17 {x0 x1 x2 x3 : Value} {w : World} {r : Value × World} (h : s17 x0 x1 x2 x3 w = some r) : C Tryd.prog 17 #[x0, x1, x2, x3] w = some r :=
  C_ev follows_all drawLaw (by kernel_rfl) Tryd.func17 (by rfl) ((s17eq x0 x1 x2 x3 w).trans (show s17raw x0 x1 x2 x3 w = some r from (Ev.bind_mono fun (_ : Value × World) => (Ev.bind_mono fun (_ : Value × World) => (Ev.bind_mono fun (_ : Value) => (condK_mono id (Ev.bind_mono fun (_ : Value × World) => (Ev.bind_mono fun (_ : Value) => (Ev.bind_mono fun (_ : Value) => (Ev.bind_mono fun (_ : Value × World) => (Ev.bind_mono fun (_ : Value) => (Ev.bind_mono fun (_ : Value) => (condK_mono id (evDraw_tape (n := 70) (M := fun g w => s17M0 (g 0) (g 1) (g 2) (g 3) (g 4) (g 5) (g 6) (g 7) (g 8) (g 9) (g 10) (g 11) (g 12) (g 13) (g 14) (g 15) (g 16) (g 17) (g 18) (g 19) (g 20) (g 21) (g 22) (g 23) (g 24) (g 25) (g 26) (g 27) (g 28) (g 29) (g 30) (g 31) (g 32) (g 33) (g 34) (g 35) (g 36) (g 37) (g 38) (g 39) (g 40) (g 41) (g 42) (g 43) (g 44) (g 45) (g 46) (g 47) (g 48) (g 49) (g 50) (g 51) (g 52) (g 53) (g 54) (g 55) (g 56) (g 57) (g 58) (g 59) (g 60) (g 61) (g 62) (g 63) (g 64) (g 65) (g 66) (g 67) (g 68) (g 69) [] w) (by kernel_rfl) (by rfl) rfl (fun g w y h => (s17J0fr g [] w).trans (s17J0of h)))))))))))))) h))
theorem e17 {x0 x1 x2 x3 : Value} {w : World} {Q : Value × World → Prop} (h : Brings (s17 x0 x1 x2 x3 w) Q) : Brings (Xcall Tryd.prog (Value.func (Fn.func 17) #[] #[]) #[x0, x1, x2, x3] w) Q :=
  h.call (Xcall_fn Tryd.func17 (by decide +kernel) (by rfl) _ _ _ w) fun _ h => c17 h

/-! (*lychgate/seqadj.Stream).Map -/
noncomputable def s18K0 : Exit → Act → World → Option (Value × World) := scopeK (leaveK Tryd.prog Tryd.f18)
noncomputable def s18K1 : Exit → Act → World → Option (Value × World) := seqK (fun a w => evK Tryd.prog 18 none (nav [1, 0] (bodyOf Tryd.f18)) none _ a w s18K0) s18K0
noncomputable def s18J0 (s : List Value) (d : List Deferred) (w : World) : Option (Value × World) := s18K1 .normal ⟨s.toArray, d⟩ w
noncomputable def s18K2 : Exit → Act → World → Option (Value × World) := seqK (fun a w => evK Tryd.prog 18 none (nav [1, 0, 1, 1, 1, 1] (bodyOf Tryd.f18)) none _ a w s18K0) s18K0
noncomputable def s18K3 : Exit → Act → World → Option (Value × World) := blockK 0 s18K2
noncomputable def s18G1R (s5 : Value) (d : List Deferred) (w : World) : Exit → Option (Value × World)
  | Exit.normal =>
    (Qload Tryd.prog 24 s5 w).bind fun v182 =>
    (takeAll Tryd.prog d w).bind fun w_ => some (v182, w_)
  | (Exit.exit 0) =>
    (Qload Tryd.prog 24 s5 w).bind fun v183 =>
    (takeAll Tryd.prog d w).bind fun w_ => some (v183, w_)
  | _ => none
noncomputable def s18G1Q (l : Nat) (s3 s5 s12 : Value) (w : World) : Option (Value × World) :=
  (Xalloc Tryd.prog 85 w).bind fun r184 =>
  (Xstore Tryd.prog 85 r184.1 s12 r184.2).bind fun r185 =>
  begK Tryd.prog l r185.2 fun w186 =>
  (QfieldAddr Tryd.prog 85 r184.1 0).bind fun v187 =>
  (Qload Tryd.prog 24 v187 w186).bind fun v188 =>
  (Qload Tryd.prog 24 s3 w186).bind fun v189 =>
  (Xcall Tryd.prog (Value.func (Fn.func 39) #[] #[]) #[v188, v189] w186).bind fun r190 =>
  (Qbin Tryd.prog .gtr 3 r190.1 (Value.int .i64 0)).bind fun v191 =>
  condK v191 (
    endR Tryd.prog l none r190.2
  ) (
    (QfieldAddr Tryd.prog 85 r184.1 1).bind fun v192 =>
    (Qload Tryd.prog 24 v192 r190.2).bind fun v193 =>
    (Qload Tryd.prog 24 s3 r190.2).bind fun v194 =>
    (Xcall Tryd.prog (Value.func (Fn.func 39) #[] #[]) #[v193, v194] r190.2).bind fun r195 =>
    (Qbin Tryd.prog .gtr 3 r195.1 (Value.int .i64 0)).bind fun v196 =>
    condK v196 (
      (QfieldAddr Tryd.prog 85 r184.1 0).bind fun v197 =>
      (Qload Tryd.prog 24 v197 r195.2).bind fun v198 =>
      (QfieldAddr Tryd.prog 85 r184.1 2).bind fun v199 =>
      (Qload Tryd.prog 24 v199 r195.2).bind fun v200 =>
      (Qbin Tryd.prog .add 24 v198 v200).bind fun v201 =>
      (Xstore Tryd.prog 24 s5 v201 r195.2).bind fun r202 =>
      endR Tryd.prog l (some (Code.exit 0)) r202.2
    ) (
      (Qload Tryd.prog 24 s3 r195.2).bind fun v203 =>
      (QfieldAddr Tryd.prog 85 r184.1 3).bind fun v204 =>
      (Qload Tryd.prog 24 v204 r195.2).bind fun v205 =>
      (Qbin Tryd.prog .add 24 v203 v205).bind fun v206 =>
      (Xstore Tryd.prog 24 s5 v206 r195.2).bind fun r207 =>
      endR Tryd.prog l (some (Code.exit 0)) r207.2
    )
  )
noncomputable def s18M0raw (aA aB aC aD aE _ aG _ _ _ _ _ aM aN aO aP aQ aR aS aT aU aV aW aX aY aZ bA bB bC bD bE bF bG bH bI : Value) (d : List Deferred) (w : World) : Option (Value × World) :=
  (Qbin Tryd.prog .eql 47 aA (Value.pointer none)).bind fun v177 =>
  condK v177 (
    (takeAll Tryd.prog d w).bind fun w_ => some ((Value.int .u32 0), w_)
  ) (
    (Qload Tryd.prog 24 aD w).bind fun v178 =>
    (Xalloc Tryd.prog 24 w).bind fun r179 =>
    (Xstore Tryd.prog 24 r179.1 v178 r179.2).bind fun r180 =>
    (Xcall Tryd.prog (Value.func (Fn.func 38) #[] #[]) #[aA] r180.2).bind fun r181 =>
    (evRange Tryd.prog 18 none r181.1 #[12] (nav [1, 0, 1, 1, 1, 0, 1, 0, 0] (bodyOf Tryd.f18)) (nav [1, 0, 1, 1, 1, 0, 1, 0, 1] (bodyOf Tryd.f18)) ⟨[aA,aB,aC,aD,aE, r179.1, aG,aA, v177, v178, aA, r181.1, aM,aN,aO,aP,aQ,aR,aS,aT,aU,aV,aW,aX,aY,aZ,bA,bB,bC,bD,bE,bF,bG,bH,bI].toArray, d⟩ r181.2).bind fun x => s18K3 x.1 x.2.1 x.2.2
  )
noncomputable def s18M0 (aA aB aC aD aE _ aG _ _ _ _ _ aM aN aO aP aQ aR aS aT aU aV aW aX aY aZ bA bB bC bD bE bF bG bH bI : Value) (d : List Deferred) (w : World) : Option (Value × World) :=
  (Qbin Tryd.prog .eql 47 aA (Value.pointer none)).bind fun v177 =>
  condK v177 (
    (takeAll Tryd.prog d w).bind fun w_ => some ((Value.int .u32 0), w_)
  ) (
    (Qload Tryd.prog 24 aD w).bind fun v178 =>
    (Xalloc Tryd.prog 24 w).bind fun r179 =>
    (Xstore Tryd.prog 24 r179.1 v178 r179.2).bind fun r180 =>
    (Xcall Tryd.prog (Value.func (Fn.func 38) #[] #[]) #[aA] r180.2).bind fun r181 =>
    (evRange Tryd.prog 18 none r181.1 #[12] (nav [1, 0, 1, 1, 1, 0, 1, 0, 0] (bodyOf Tryd.f18)) (nav [1, 0, 1, 1, 1, 0, 1, 0, 1] (bodyOf Tryd.f18)) ⟨[aA,aB,aC,aD,aE, r179.1, aG,aA, v177, v178, aA, r181.1, aM,aN,aO,aP,aQ,aR,aS,aT,aU,aV,aW,aX,aY,aZ,bA,bB,bC,bD,bE,bF,bG,bH,bI].toArray, d⟩ r181.2).bind fun x => s18G1R r179.1 x.2.1.defers x.2.2 x.1
  )
noncomputable def s18raw (x0 x1 : Value) (w : World) : Option (Value × World) :=
  (Xbox Tryd.prog 24 x1 w).bind fun r176 =>
  evK Tryd.prog 18 none (nav [1] (bodyOf Tryd.f18)) none _ ⟨[x0, x1, undef, r176.1, (Value.int .u32 0), undef, undef, undef, undef, undef, undef, undef, undef, undef, undef, undef, undef, undef, undef, undef, undef, undef, undef, undef, undef, undef, undef, undef, undef, undef, undef, undef, undef, undef, undef].toArray, []⟩ r176.2 (leaveK Tryd.prog Tryd.f18)
noncomputable def s18 (x0 x1 : Value) (w : World) : Option (Value × World) :=
  (Xbox Tryd.prog 24 x1 w).bind fun r176 =>
  s18M0 x0 x1 undef r176.1 (Value.int .u32 0) undef undef undef undef undef undef undef undef undef undef undef undef undef undef undef undef undef undef undef undef undef undef undef undef undef undef undef undef undef undef [] r176.2
theorem s18G1Rnrmeq (aA aB aC aD aE aF aG aH aI aJ aK aL aM aN aO aP aQ aR aS aT aU aV aW aX aY aZ bA bB bC bD bE bF bG bH bI : Value) (d : List Deferred) (w : World) : s18K3 Exit.normal ⟨[aA,aB,aC,aD,aE,aF,aG,aH,aI,aJ,aK,aL,aM,aN,aO,aP,aQ,aR,aS,aT,aU,aV,aW,aX,aY,aZ,bA,bB,bC,bD,bE,bF,bG,bH,bI].toArray, d⟩ w = s18G1R aF d w Exit.normal := by kernel_rfl
theorem s18G1Rx0eq (aA aB aC aD aE aF aG aH aI aJ aK aL aM aN aO aP aQ aR aS aT aU aV aW aX aY aZ bA bB bC bD bE bF bG bH bI : Value) (d : List Deferred) (w : World) : s18K3 (Exit.exit 0) ⟨[aA,aB,aC,aD,aE,aF,aG,aH,aI,aJ,aK,aL,aM,aN,aO,aP,aQ,aR,aS,aT,aU,aV,aW,aX,aY,aZ,bA,bB,bC,bD,bE,bF,bG,bH,bI].toArray, d⟩ w = s18G1R aF d w (Exit.exit 0) := by kernel_rfl
theorem s18G1Rof {aA aB aC aD aE aF aG aH aI aJ aK aL aM aN aO aP aQ aR aS aT aU aV aW aX aY aZ bA bB bC bD bE bF bG bH bI : Value} {d : List Deferred} {w : World} {e : Exit} {y : _} (h : s18G1R aF d w e = some y) : s18K3 e ⟨[aA,aB,aC,aD,aE,aF,aG,aH,aI,aJ,aK,aL,aM,aN,aO,aP,aQ,aR,aS,aT,aU,aV,aW,aX,aY,aZ,bA,bB,bC,bD,bE,bF,bG,bH,bI].toArray, d⟩ w = some y := by
  unfold s18G1R at h
  split at h
  · exact (s18G1Rnrmeq _ _ _ _ _ _ _ _ _ _ _ _ _ _ _ _ _ _ _ _ _ _ _ _ _ _ _ _ _ _ _ _ _ _ _ _ _).trans h
  · exact (s18G1Rx0eq _ _ _ _ _ _ _ _ _ _ _ _ _ _ _ _ _ _ _ _ _ _ _ _ _ _ _ _ _ _ _ _ _ _ _ _ _).trans h
  · cases h
theorem s18G1Qeq (l : Nat) (s0 s1 s2 s3 s4 s5 s6 s7 s8 s9 s10 s11 s12 s13 s14 s15 s16 s17 s18 s19 s20 s21 s22 s23 s24 s25 s26 s27 s28 s29 s30 s31 s32 s33 s34 : Value) (w : World) : roundE Tryd.prog l 18 [s0, s1, s2, s3, s4, s5, s6, s7, s8, s9, s10, s11, s12, s13, s14, s15, s16, s17, s18, s19, s20, s21, s22, s23, s24, s25, s26, s27, s28, s29, s30, s31, s32, s33, s34].toArray (nav [1, 0, 1, 1, 1, 0, 1, 0, 0] (bodyOf Tryd.f18)) (nav [1, 0, 1, 1, 1, 0, 1, 0, 1] (bodyOf Tryd.f18)) w = s18G1Q l s3 s5 s12 w := by kernel_rfl
theorem s18G1Qof {l : Nat} {s0 s1 s2 s3 s4 s5 s6 s7 s8 s9 s10 s11 s12 s13 s14 s15 s16 s17 s18 s19 s20 s21 s22 s23 s24 s25 s26 s27 s28 s29 s30 s31 s32 s33 s34 : Value} {w : World} {r : Value × World} (h : s18G1Q l s3 s5 s12 w = some r) : Rd Tryd.prog l 18 [s0, s1, s2, s3, s4, s5, s6, s7, s8, s9, s10, s11, s12, s13, s14, s15, s16, s17, s18, s19, s20, s21, s22, s23, s24, s25, s26, s27, s28, s29, s30, s31, s32, s33, s34].toArray (nav [1, 0, 1, 1, 1, 0, 1, 0, 0] (bodyOf Tryd.f18)) (nav [1, 0, 1, 1, 1, 0, 1, 0, 1] (bodyOf Tryd.f18)) w = some r :=
  Rd_ev follows_all drawLaw (by kernel_rfl) ((s18G1Qeq l s0 s1 s2 s3 s4 s5 s6 s7 s8 s9 s10 s11 s12 s13 s14 s15 s16 s17 s18 s19 s20 s21 s22 s23 s24 s25 s26 s27 s28 s29 s30 s31 s32 s33 s34 w).trans h)
theorem s18G1Qb {l : Nat} {s0 s1 s2 s3 s4 s5 s6 s7 s8 s9 s10 s11 s12 s13 s14 s15 s16 s17 s18 s19 s20 s21 s22 s23 s24 s25 s26 s27 s28 s29 s30 s31 s32 s33 s34 : Value} {w : World} {Q : Value × World → Prop} (h : Brings (s18G1Q l s3 s5 s12 w) Q) : Brings (Rd Tryd.prog l 18 [s0, s1, s2, s3, s4, s5, s6, s7, s8, s9, s10, s11, s12, s13, s14, s15, s16, s17, s18, s19, s20, s21, s22, s23, s24, s25, s26, s27, s28, s29, s30, s31, s32, s33, s34].toArray (nav [1, 0, 1, 1, 1, 0, 1, 0, 0] (bodyOf Tryd.f18)) (nav [1, 0, 1, 1, 1, 0, 1, 0, 1] (bodyOf Tryd.f18)) w) Q := h.of_eq fun _ h => s18G1Qof h
theorem s18J0eq (aA aB aC aD aE aF aG aH aI aJ aK aL aM aN aO aP aQ aR aS aT aU aV aW aX aY aZ bA bB bC bD bE bF bG bH bI : Value) (d : List Deferred) (w : World) : s18J0 [aA,aB,aC,aD,aE,aF,aG,aH,aI,aJ,aK,aL,aM,aN,aO,aP,aQ,aR,aS,aT,aU,aV,aW,aX,aY,aZ,bA,bB,bC,bD,bE,bF,bG,bH,bI] d w = s18M0raw aA aB aC aD aE aF aG aH aI aJ aK aL aM aN aO aP aQ aR aS aT aU aV aW aX aY aZ bA bB bC bD bE bF bG bH bI d w := (show s18J0 [aA,aB,aC,aD,aE,aF,aG,aH,aI,aJ,aK,aL,aM,aN,aO,aP,aQ,aR,aS,aT,aU,aV,aW,aX,aY,aZ,bA,bB,bC,bD,bE,bF,bG,bH,bI] d w = evK Tryd.prog 18 none (nav [1, 0] (bodyOf Tryd.f18)) none _ ⟨[aA,aB,aC,aD,aE,aF,aG,aH,aI,aJ,aK,aL,aM,aN,aO,aP,aQ,aR,aS,aT,aU,aV,aW,aX,aY,aZ,bA,bB,bC,bD,bE,bF,bG,bH,bI].toArray, d⟩ w s18K0 from by kernel_rfl).trans (by kernel_rfl)
theorem s18J0of {d : List Deferred} {w : World} {r : _} (h : s18M0 aA aB aC aD aE aF aG aH aI aJ aK aL aM aN aO aP aQ aR aS aT aU aV aW aX aY aZ bA bB bC bD bE bF bG bH bI d w = some r) : s18J0 [aA,aB,aC,aD,aE,aF,aG,aH,aI,aJ,aK,aL,aM,aN,aO,aP,aQ,aR,aS,aT,aU,aV,aW,aX,aY,aZ,bA,bB,bC,bD,bE,bF,bG,bH,bI] d w = some r :=
  ((s18J0eq aA aB aC aD aE aF aG aH aI aJ aK aL aM aN aO aP aQ aR aS aT aU aV aW aX aY aZ bA bB bC bD bE bF bG bH bI d w).trans ((Ev.bind_mono fun (_ : Value) => (condK_mono id (Ev.bind_mono fun (_ : Value) => (Ev.bind_mono fun (r179 : Value × World) => (Ev.bind_mono fun (_ : Value × World) => (Ev.bind_mono fun (_ : Value × World) => (range_of (R := fun e d w => s18G1R r179.1 d w e) (fun e d w y h => s18G1Rof h)))))))) h))
theorem s18eq (x0 x1 : Value) (w : World) : evK Tryd.prog 18 none (bodyOf Tryd.f18) none _ { tmps := (([x0, x1] : List Value) ++ List.replicate (35 - 2) undef).toArray, defers := [] } w (leaveK Tryd.prog Tryd.f18) = s18raw x0 x1 w := by kernel_rfl
theorem c18 {x0 x1 : Value} {w : World} {r : Value × World} (h : s18 x0 x1 w = some r) : C Tryd.prog 18 #[x0, x1] w = some r :=
  C_ev follows_all drawLaw (by kernel_rfl) Tryd.func18 (by rfl) ((s18eq x0 x1 w).trans (show s18raw x0 x1 w = some r from (Ev.bind_mono fun (_ : Value × World) => (fun h => scope_of (c := (nav [1, 0] (bodyOf Tryd.f18))) (by kernel_rfl) (s18J0of h))) h))
theorem e18 {x0 x1 : Value} {w : World} {Q : Value × World → Prop} (h : Brings (s18 x0 x1 w) Q) : Brings (Xcall Tryd.prog (Value.func (Fn.func 18) #[] #[]) #[x0, x1] w) Q :=
  h.call (Xcall_fn Tryd.func18 (by decide +kernel) (by rfl) _ _ _ w) fun _ h => c18 h

/-! (*lychgate/seqadj.Stream).Add$1 -/
noncomputable def s37 (x0 : Value) (w : World) : Option (Value × World) :=
  (Qbin Tryd.prog .geq 3 x0 (Value.int .i64 1)).bind fun v208 =>
  (guardQ v208 true (Qbin Tryd.prog .leq 3 (gv (isB v208 true) x0) (Value.int .i64 128))).bind fun v209 =>
  (Qpick v208 v209 (Value.bool false)).bind fun v210 =>
  some (v210, w)
theorem s37eq (x0 : Value) (w : World) : evK Tryd.prog 37 none (bodyOf Tryd.f37) none _ { tmps := (([x0] : List Value) ++ List.replicate (9 - 1) undef).toArray, defers := [] } w (leaveK Tryd.prog Tryd.f37) = s37 x0 w := by kernel_rfl
theorem c37 {x0 : Value} {w : World} {r : Value × World} (h : s37 x0 w = some r) : C Tryd.prog 37 #[x0] w = some r :=
  C_ev follows_all drawLaw (by kernel_rfl) Tryd.func37 (by rfl) ((s37eq x0 w).trans h)
theorem e37 {x0 : Value} {w : World} {Q : Value × World → Prop} (h : Brings (s37 x0 w) Q) : Brings (Xcall Tryd.prog (Value.func (Fn.func 37) #[] #[]) #[x0] w) Q :=
  h.call (Xcall_fn Tryd.func37 (by decide +kernel) (by rfl) _ _ _ w) fun _ h => c37 h

/-! (*lychgate/seqadj.Stream).last -/
noncomputable def s38 (x0 : Value) (w : World) : Option (Value × World) :=
  (Xbox Tryd.prog 47 x0 w).bind fun r211 =>
  (some (Value.func (Go.Fn.func 51) #[] #[r211.1])).bind fun v212 =>
  some (v212, r211.2)
theorem s38eq (x0 : Value) (w : World) : evK Tryd.prog 38 none (bodyOf Tryd.f38) none _ { tmps := (([x0] : List Value) ++ List.replicate (4 - 1) undef).toArray, defers := [] } w (leaveK Tryd.prog Tryd.f38) = s38 x0 w := by kernel_rfl
theorem c38 {x0 : Value} {w : World} {r : Value × World} (h : s38 x0 w = some r) : C Tryd.prog 38 #[x0] w = some r :=
  C_ev follows_all drawLaw (by kernel_rfl) Tryd.func38 (by rfl) ((s38eq x0 w).trans h)
theorem e38 {x0 : Value} {w : World} {Q : Value × World → Prop} (h : Brings (s38 x0 w) Q) : Brings (Xcall Tryd.prog (Value.func (Fn.func 38) #[] #[]) #[x0] w) Q :=
  h.call (Xcall_fn Tryd.func38 (by decide +kernel) (by rfl) _ _ _ w) fun _ h => c38 h

/-! lychgate/wire.Ahead -/
noncomputable def s39 (x0 x1 : Value) (w : World) : Option (Value × World) :=
  (Qbin Tryd.prog .sub 24 x0 x1).bind fun v213 =>
  (Qconv Tryd.prog 24 21 v213).bind fun v214 =>
  (Qconv Tryd.prog 21 3 v214).bind fun v215 =>
  some (v215, w)
theorem s39eq (x0 x1 : Value) (w : World) : evK Tryd.prog 39 none (bodyOf Tryd.f39) none _ { tmps := (([x0, x1] : List Value) ++ List.replicate (10 - 2) undef).toArray, defers := [] } w (leaveK Tryd.prog Tryd.f39) = s39 x0 x1 w := by kernel_rfl
theorem c39 {x0 x1 : Value} {w : World} {r : Value × World} (h : s39 x0 x1 w = some r) : C Tryd.prog 39 #[x0, x1] w = some r :=
  C_ev follows_all drawLaw (by kernel_rfl) Tryd.func39 (by rfl) ((s39eq x0 x1 w).trans h)
theorem e39 {x0 x1 : Value} {w : World} {Q : Value × World → Prop} (h : Brings (s39 x0 x1 w) Q) : Brings (Xcall Tryd.prog (Value.func (Fn.func 39) #[] #[]) #[x0, x1] w) Q :=
  h.call (Xcall_fn Tryd.func39 (by decide +kernel) (by rfl) _ _ _ w) fun _ h => c39 h

/-! (*lychgate/seqadj.Stream).last$1 -/
noncomputable def s51K0 : Exit → Act → World → Option (Value × World) := blockK 0 (leaveK Tryd.prog Tryd.f51)
noncomputable def s51G0R (d : List Deferred) (w : World) : Exit → Option (Value × World)
  | Exit.normal =>
    (takeAll Tryd.prog d w).bind fun w_ => some ((Value.tuple #[]), w_)
  | Exit.ret =>
    (takeAll Tryd.prog d w).bind fun w_ => some ((Value.tuple #[]), w_)
  | _ => none
noncomputable def s51G0Q (l : Nat) (s2 s13 : Value) (w : World) : Option (Value × World) :=
  (Xalloc Tryd.prog 85 w).bind fun r224 =>
  (Xstore Tryd.prog 85 r224.1 s13 r224.2).bind fun r225 =>
  begK Tryd.prog l r225.2 fun w226 =>
  (Qload Tryd.prog 106 s2 w226).bind fun v227 =>
  (Qload Tryd.prog 85 r224.1 w226).bind fun v228 =>
  (Xcall Tryd.prog v227 #[v228] w226).bind fun r229 =>
  (Qun .not r229.1).bind fun v230 =>
  condK v230 (
    endR Tryd.prog l (some Code.ret) r229.2
  ) (
    endR Tryd.prog l none r229.2
  )
noncomputable def s51raw (x0 x1 : Value) (w : World) : Option (Value × World) :=
  (Xbox Tryd.prog 106 x0 w).bind fun r216 =>
  (Qload Tryd.prog 47 x1 r216.2).bind fun v217 =>
  (Qbin Tryd.prog .eql 47 v217 (Value.pointer none)).bind fun v218 =>
  condK v218 (
    some ((Value.tuple #[]), r216.2)
  ) (
    (Qload Tryd.prog 47 x1 r216.2).bind fun v219 =>
    (Qnil v219).bind fun v220 =>
    (QfieldAddr Tryd.prog 82 v220 0).bind fun v221 =>
    (Qload Tryd.prog 80 v221 r216.2).bind fun v222 =>
    (Xcall Tryd.prog (Value.func (Fn.func 52) #[] #[]) #[v222] r216.2).bind fun r223 =>
    (evRange Tryd.prog 51 none r223.1 #[12, 13] (nav [1, 1, 1, 0, 0] (bodyOf Tryd.f51)) (nav [1, 1, 1, 0, 1] (bodyOf Tryd.f51)) ⟨[x0, x1, r216.1, undef, undef, v217, v218, v219, v220, v221, v222, r223.1, undef, undef, undef, undef, undef, undef].toArray, []⟩ r223.2).bind fun x => s51K0 x.1 x.2.1 x.2.2
  )
noncomputable def s51 (x0 x1 : Value) (w : World) : Option (Value × World) :=
  (Xbox Tryd.prog 106 x0 w).bind fun r216 =>
  (Qload Tryd.prog 47 x1 r216.2).bind fun v217 =>
  (Qbin Tryd.prog .eql 47 v217 (Value.pointer none)).bind fun v218 =>
  condK v218 (
    some ((Value.tuple #[]), r216.2)
  ) (
    (Qload Tryd.prog 47 x1 r216.2).bind fun v219 =>
    (Qnil v219).bind fun v220 =>
    (QfieldAddr Tryd.prog 82 v220 0).bind fun v221 =>
    (Qload Tryd.prog 80 v221 r216.2).bind fun v222 =>
    (Xcall Tryd.prog (Value.func (Fn.func 52) #[] #[]) #[v222] r216.2).bind fun r223 =>
    (evRange Tryd.prog 51 none r223.1 #[12, 13] (nav [1, 1, 1, 0, 0] (bodyOf Tryd.f51)) (nav [1, 1, 1, 0, 1] (bodyOf Tryd.f51)) ⟨[x0, x1, r216.1, undef, undef, v217, v218, v219, v220, v221, v222, r223.1, undef, undef, undef, undef, undef, undef].toArray, []⟩ r223.2).bind fun x => s51G0R x.2.1.defers x.2.2 x.1
  )
theorem s51G0Rnrmeq (aA aB aC aD aE aF aG aH aI aJ aK aL aM aN aO aP aQ aR : Value) (d : List Deferred) (w : World) : s51K0 Exit.normal ⟨[aA,aB,aC,aD,aE,aF,aG,aH,aI,aJ,aK,aL,aM,aN,aO,aP,aQ,aR].toArray, d⟩ w = s51G0R d w Exit.normal := by kernel_rfl
theorem s51G0Rreteq (aA aB aC aD aE aF aG aH aI aJ aK aL aM aN aO aP aQ aR : Value) (d : List Deferred) (w : World) : s51K0 Exit.ret ⟨[aA,aB,aC,aD,aE,aF,aG,aH,aI,aJ,aK,aL,aM,aN,aO,aP,aQ,aR].toArray, d⟩ w = s51G0R d w Exit.ret := by kernel_rfl
theorem s51G0Rof {aA aB aC aD aE aF aG aH aI aJ aK aL aM aN aO aP aQ aR : Value} {d : List Deferred} {w : World} {e : Exit} {y : _} (h : s51G0R d w e = some y) : s51K0 e ⟨[aA,aB,aC,aD,aE,aF,aG,aH,aI,aJ,aK,aL,aM,aN,aO,aP,aQ,aR].toArray, d⟩ w = some y := by
  unfold s51G0R at h
  split at h
  · exact (s51G0Rnrmeq _ _ _ _ _ _ _ _ _ _ _ _ _ _ _ _ _ _ _ _).trans h
  · exact (s51G0Rreteq _ _ _ _ _ _ _ _ _ _ _ _ _ _ _ _ _ _ _ _).trans h
  · cases h
theorem s51G0Qeq (l : Nat) (s0 s1 s2 s3 s4 s5 s6 s7 s8 s9 s10 s11 s12 s13 s14 s15 s16 s17 : Value) (w : World) : roundE Tryd.prog l 51 [s0, s1, s2, s3, s4, s5, s6, s7, s8, s9, s10, s11, s12, s13, s14, s15, s16, s17].toArray (nav [1, 1, 1, 0, 0] (bodyOf Tryd.f51)) (nav [1, 1, 1, 0, 1] (bodyOf Tryd.f51)) w = s51G0Q l s2 s13 w := by kernel_rfl
theorem s51G0Qof {l : Nat} {s0 s1 s2 s3 s4 s5 s6 s7 s8 s9 s10 s11 s12 s13 s14 s15 s16 s17 : Value} {w : World} {r : Value × World} (h : s51G0Q l s2 s13 w = some r) : Rd Tryd.prog l 51 [s0, s1, s2, s3, s4, s5, s6, s7, s8, s9, s10, s11, s12, s13, s14, s15, s16, s17].toArray (nav [1, 1, 1, 0, 0] (bodyOf Tryd.f51)) (nav [1, 1, 1, 0, 1] (bodyOf Tryd.f51)) w = some r :=
  Rd_ev follows_all drawLaw (by kernel_rfl) ((s51G0Qeq l s0 s1 s2 s3 s4 s5 s6 s7 s8 s9 s10 s11 s12 s13 s14 s15 s16 s17 w).trans h)
theorem s51G0Qb {l : Nat} {s0 s1 s2 s3 s4 s5 s6 s7 s8 s9 s10 s11 s12 s13 s14 s15 s16 s17 : Value} {w : World} {Q : Value × World → Prop} (h : Brings (s51G0Q l s2 s13 w) Q) : Brings (Rd Tryd.prog l 51 [s0, s1, s2, s3, s4, s5, s6, s7, s8, s9, s10, s11, s12, s13, s14, s15, s16, s17].toArray (nav [1, 1, 1, 0, 0] (bodyOf Tryd.f51)) (nav [1, 1, 1, 0, 1] (bodyOf Tryd.f51)) w) Q := h.of_eq fun _ h => s51G0Qof h
theorem s51eq (x0 x1 : Value) (w : World) : evK Tryd.prog 51 none (bodyOf Tryd.f51) none _ { tmps := (([x0, x1] : List Value) ++ List.replicate (18 - 2) undef).toArray, defers := [] } w (leaveK Tryd.prog Tryd.f51) = s51raw x0 x1 w := by kernel_rfl
theorem c51 {x0 x1 : Value} {w : World} {r : Value × World} (h : s51 x0 x1 w = some r) : C Tryd.prog 51 #[x0, x1] w = some r :=
  C_ev follows_all drawLaw (by kernel_rfl) Tryd.func51 (by rfl) ((s51eq x0 x1 w).trans (show s51raw x0 x1 w = some r from (Ev.bind_mono fun (_ : Value × World) => (Ev.bind_mono fun (_ : Value) => (Ev.bind_mono fun (_ : Value) => (condK_mono id (Ev.bind_mono fun (_ : Value) => (Ev.bind_mono fun (_ : Value) => (Ev.bind_mono fun (_ : Value) => (Ev.bind_mono fun (_ : Value) => (Ev.bind_mono fun (_ : Value × World) => (range_of (R := fun e d w => s51G0R d w e) (fun e d w y h => s51G0Rof h))))))))))) h))
theorem e51 {x0 x1 : Value} {w : World} {Q : Value × World → Prop} (h : Brings (s51 x0 x1 w) Q) : Brings (Xcall Tryd.prog (Value.func (Fn.func 51) #[] #[x1]) #[x0] w) Q :=
  h.call (Xcall_fn Tryd.func51 (by decide +kernel) (by rfl) _ _ _ w) fun _ h => c51 h

/-! slices.Backward[[]lychgate/seqadj.part,lychgate/seqadj.part] -/
noncomputable def s52 (x0 : Value) (w : World) : Option (Value × World) :=
  (Xbox Tryd.prog 80 x0 w).bind fun r231 =>
  (some (Value.func (Go.Fn.func 67) #[] #[r231.1])).bind fun v232 =>
  some (v232, r231.2)
theorem s52eq (x0 : Value) (w : World) : evK Tryd.prog 52 none (bodyOf Tryd.f52) none _ { tmps := (([x0] : List Value) ++ List.replicate (4 - 1) undef).toArray, defers := [] } w (leaveK Tryd.prog Tryd.f52) = s52 x0 w := by kernel_rfl
theorem c52 {x0 : Value} {w : World} {r : Value × World} (h : s52 x0 w = some r) : C Tryd.prog 52 #[x0] w = some r :=
  C_ev follows_all drawLaw (by kernel_rfl) Tryd.func52 (by rfl) ((s52eq x0 w).trans h)
theorem e52 {x0 : Value} {w : World} {Q : Value × World → Prop} (h : Brings (s52 x0 w) Q) : Brings (Xcall Tryd.prog (Value.func (Fn.func 52) #[] #[]) #[x0] w) Q :=
  h.call (Xcall_fn Tryd.func52 (by decide +kernel) (by rfl) _ _ _ w) fun _ h => c52 h

/-! slices.Backward[[]lychgate/seqadj.part,lychgate/seqadj.part]$1 -/
noncomputable def s67K0 : Exit → Act → World → Option (Value × World) := blockK 0 (leaveK Tryd.prog Tryd.f67)
noncomputable def s67L0 (s : List Value) (d : List Deferred) (w : World) : Option (Value × World) := loopN Tryd.prog 67 none (nav [1, 0, 0] (bodyOf Tryd.f67)) s67K0 s d w
noncomputable def s67B0 : List Value → World → Option (Exit × List Value × World)
  | [x0, x1, x3], w =>
    (Qbin Tryd.prog .geq 3 x3 (Value.int .i64 0)).bind fun v236 =>
    condK v236 (
      (Qload Tryd.prog 80 x1 w).bind fun v237 =>
      (QindexAddr Tryd.prog 80 v237 x3 w).bind fun v238 =>
      (Qload Tryd.prog 85 v238 w).bind fun v239 =>
      (Xcall Tryd.prog x0 #[x3, v239] w).bind fun r240 =>
      (Qun .not r240.1).bind fun v241 =>
      condK v241 (
        some (Exit.ret, [x0, x1, x3], r240.2)
      ) (
        (Qbin Tryd.prog .sub 3 x3 (Value.int .i64 1)).bind fun v242 =>
        some (Exit.normal, [x0, x1, v242], r240.2)
      )
    ) (
      some ((Exit.exit 0), [x0, x1, x3], w)
    )
  | _, _ => none
noncomputable def s67R0 : Exit → List Value → World → Option (Value × World)
  | (Exit.exit 0), [_, _, _], w =>
    some ((Value.tuple #[]), w)
  | Exit.ret, [_, _, _], w =>
    some ((Value.tuple #[]), w)
  | _, _, _ => none
noncomputable def s67raw (x0 x1 : Value) (w : World) : Option (Value × World) :=
  (Qload Tryd.prog 80 x1 w).bind fun v233 =>
  (Qlen Tryd.prog #[80] 3 #[v233] w).bind fun v234 =>
  (Qbin Tryd.prog .sub 3 v234 (Value.int .i64 1)).bind fun v235 =>
  s67L0 [x0, x1, undef, v235, v233, v234, v235, undef, undef, undef, undef, undef, undef, undef, undef, undef, undef, undef, undef] [] w
noncomputable def s67 (x0 x1 : Value) (w : World) : Option (Value × World) :=
  (Qload Tryd.prog 80 x1 w).bind fun v233 =>
  (Qlen Tryd.prog #[80] 3 #[v233] w).bind fun v234 =>
  (Qbin Tryd.prog .sub 3 v234 (Value.int .i64 1)).bind fun v235 =>
  loopR s67B0 s67R0 [x0, x1, v235] w
theorem s67B0eq (x0 x1 x3 : Value) (w : World) (g : Nat → Value) (d : List Deferred) : evK Tryd.prog 67 none (nav [1, 0, 0] (bodyOf Tryd.f67)) none _ (frm 19 (setL [0, 1, 3] [x0, x1, x3] g) d) w (projK [0, 1, 3]) = s67B0 [x0, x1, x3] w := by kernel_rfl
theorem s67R0x0eq (x0 x1 x3 : Value) (g : Nat → Value) (w : World) : s67K0 (Exit.exit 0) (frm 19 (setL [0, 1, 3] [x0, x1, x3] g) []) w = s67R0 (Exit.exit 0) [x0, x1, x3] w := by kernel_rfl
theorem s67R0ret_eq (x0 x1 x3 : Value) (g : Nat → Value) (w : World) : s67K0 Exit.ret (frm 19 (setL [0, 1, 3] [x0, x1, x3] g) []) w = s67R0 Exit.ret [x0, x1, x3] w := by kernel_rfl
theorem s67R0of : ∀ (e : Exit) (xs : List Value) (w : World) (g : Nat → Value) (y : _), s67R0 e xs w = some y → s67K0 e (frm 19 (setL [0, 1, 3] xs g) []) w = some y := by
  intro e xs w g y h
  unfold s67R0 at h
  split at h
  · exact (s67R0x0eq _ _ _ g _).trans h
  · exact (s67R0ret_eq _ _ _ g _).trans h
  · cases h
set_option maxRecDepth 20000 in
theorem s67L0of {aA aB aC aD aE aF aG aH aI aJ aK aL aM aN aO aP aQ aR aS : Value} {w : World} {r : _} (h : loopR s67B0 s67R0 [aA,aB,aD] w = some r) : s67L0 [aA,aB,aC,aD,aE,aF,aG,aH,aI,aJ,aK,aL,aM,aN,aO,aP,aQ,aR,aS] [] w = some r :=
  loopN_of (B := s67B0) (R := s67R0) (n := 19) (live := [0, 1, 3]) (fun xs w g y hl h => match xs, hl, h with | [x0, x1, x3], _, h => (s67B0eq x0 x1 x3 w g []).trans h) (by kernel_rfl) (s67R0of) (fun i => ([aA,aB,aC,aD,aE,aF,aG,aH,aI,aJ,aK,aL,aM,aN,aO,aP,aQ,aR,aS] : List Value).getD i undef) (by kernel_rfl) rfl h
theorem s67eq (x0 x1 : Value) (w : World) : evK Tryd.prog 67 none (bodyOf Tryd.f67) none _ { tmps := (([x0, x1] : List Value) ++ List.replicate (19 - 2) undef).toArray, defers := [] } w (leaveK Tryd.prog Tryd.f67) = s67raw x0 x1 w := by kernel_rfl
theorem c67 {x0 x1 : Value} {w : World} {r : Value × World} (h : s67 x0 x1 w = some r) : C Tryd.prog 67 #[x0, x1] w = some r :=
  C_ev follows_all drawLaw (by kernel_rfl) Tryd.func67 (by rfl) ((s67eq x0 x1 w).trans (show s67raw x0 x1 w = some r from (Ev.bind_mono fun (_ : Value) => (Ev.bind_mono fun (_ : Value) => (Ev.bind_mono fun (_ : Value) => (s67L0of)))) h))
theorem e67 {x0 x1 : Value} {w : World} {Q : Value × World → Prop} (h : Brings (s67 x0 x1 w) Q) : Brings (Xcall Tryd.prog (Value.func (Fn.func 67) #[] #[x1]) #[x0] w) Q :=
  h.call (Xcall_fn Tryd.func67 (by decide +kernel) (by rfl) _ _ _ w) fun _ h => c67 h

end Go.Proofs.YtphokckbcmiddaaDoor
