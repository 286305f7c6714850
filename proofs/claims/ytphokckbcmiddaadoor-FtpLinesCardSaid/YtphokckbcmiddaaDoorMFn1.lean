/- The functions of the program, by their texts. -/
import Derived.Test.YtphokckbcmiddaaDoorMFa
import Derived.Test.YtphokckbcmiddaaDoorProg
import Derived.KernelRfl
/- The functions of the program, by their texts. -/
namespace Go.Proofs.YtphokckbcmiddaaDoor
open Go Go.Ev
open Go.Proofs
theorem follows_all : Tryd.prog.follows .mixedOrders = true := by kernel_rfl
theorem seqK_n {β : Type} (F : Act → World → Option β) (K : Exit → Act → World → Option β) (a : Act) (w : World) : seqK F K .normal a w = F a w := rfl
/-! bytes.CutSuffix -/
noncomputable def s40 (x0 x1 : Value) (w : World) : Option (Value × World) :=
  (Xcall Tryd.prog (Value.func (Fn.func 53) #[] #[]) #[x0, x1] w).bind fun r1 =>
  (Qun .not r1.1).bind fun v2 =>
  condK v2 (
    some ((Value.tuple #[x0, (Value.bool false)]), r1.2)
  ) (
    (Qlen Tryd.prog #[22] 3 #[x0] r1.2).bind fun v3 =>
    (Qlen Tryd.prog #[22] 3 #[x1] r1.2).bind fun v4 =>
    (Qbin Tryd.prog .sub 3 v3 v4).bind fun v5 =>
    (Qslice Tryd.prog 22 x0 none (some v5) none r1.2).bind fun v6 =>
    some ((Value.tuple #[v6, (Value.bool true)]), r1.2)
  )
theorem s40eq (x0 x1 : Value) (w : World) : evK Tryd.prog 40 none (bodyOf Tryd.f40) none _ { tmps := (([x0, x1] : List Value) ++ List.replicate (18 - 2) undef).toArray, defers := [] } w (leaveK Tryd.prog Tryd.f40) = s40 x0 x1 w := by kernel_rfl
theorem c40 {x0 x1 : Value} {w : World} {r : Value × World} (h : s40 x0 x1 w = some r) : C Tryd.prog 40 #[x0, x1] w = some r :=
  C_ev follows_all drawLaw (by kernel_rfl) Tryd.func40 (by rfl) ((s40eq x0 x1 w).trans h)
theorem e40 {x0 x1 : Value} {w : World} {Q : Value × World → Prop} (h : Brings (s40 x0 x1 w) Q) : Brings (Xcall Tryd.prog (Value.func (Fn.func 40) #[] #[]) #[x0, x1] w) Q :=
  h.call (Xcall_fn Tryd.func40 (by decide +kernel) (by rfl) _ _ _ w) fun _ h => c40 h

/-! bytes.HasSuffix -/
noncomputable def s53 (x0 x1 : Value) (w : World) : Option (Value × World) :=
  (Qlen Tryd.prog #[22] 3 #[x0] w).bind fun v7 =>
  (Qlen Tryd.prog #[22] 3 #[x1] w).bind fun v8 =>
  (Qbin Tryd.prog .geq 3 v7 v8).bind fun v9 =>
  (guardQ v9 true (Qlen Tryd.prog #[22] 3 #[(gv (isB v9 true) x0)] w)).bind fun v10 =>
  (guardQ v9 true (Qlen Tryd.prog #[22] 3 #[(gv (isB v9 true) x1)] w)).bind fun v11 =>
  (guardQ v9 true (Qbin Tryd.prog .sub 3 v10 v11)).bind fun v12 =>
  (guardQ v9 true (Qslice Tryd.prog 22 (gv (isB v9 true) x0) (some v12) none none w)).bind fun v13 =>
  (guardX v9 true w (Xcall Tryd.prog (Value.func (Fn.func 68) #[] #[]) #[v13, (gv (isB v9 true) x1)] w)).bind fun r14 =>
  (Qpick v9 r14.1 (Value.bool false)).bind fun v15 =>
  some (v15, r14.2)
theorem s53eq (x0 x1 : Value) (w : World) : evK Tryd.prog 53 none (bodyOf Tryd.f53) none _ { tmps := (([x0, x1] : List Value) ++ List.replicate (21 - 2) undef).toArray, defers := [] } w (leaveK Tryd.prog Tryd.f53) = s53 x0 x1 w := by kernel_rfl
theorem c53 {x0 x1 : Value} {w : World} {r : Value × World} (h : s53 x0 x1 w = some r) : C Tryd.prog 53 #[x0, x1] w = some r :=
  C_ev follows_all drawLaw (by kernel_rfl) Tryd.func53 (by rfl) ((s53eq x0 x1 w).trans h)
theorem e53 {x0 x1 : Value} {w : World} {Q : Value × World → Prop} (h : Brings (s53 x0 x1 w) Q) : Brings (Xcall Tryd.prog (Value.func (Fn.func 53) #[] #[]) #[x0, x1] w) Q :=
  h.call (Xcall_fn Tryd.func53 (by decide +kernel) (by rfl) _ _ _ w) fun _ h => c53 h

/-! bytes.Equal -/
noncomputable def s68 (x0 x1 : Value) (w : World) : Option (Value × World) :=
  (Xconv Tryd.prog 22 9 x0 w).bind fun r16 =>
  (Xconv Tryd.prog 22 9 x1 r16.2).bind fun r17 =>
  (Qbin Tryd.prog .eql 9 r16.1 r17.1).bind fun v18 =>
  some (v18, r17.2)
theorem s68eq (x0 x1 : Value) (w : World) : evK Tryd.prog 68 none (bodyOf Tryd.f68) none _ { tmps := (([x0, x1] : List Value) ++ List.replicate (10 - 2) undef).toArray, defers := [] } w (leaveK Tryd.prog Tryd.f68) = s68 x0 x1 w := by kernel_rfl
theorem c68 {x0 x1 : Value} {w : World} {r : Value × World} (h : s68 x0 x1 w = some r) : C Tryd.prog 68 #[x0, x1] w = some r :=
  C_ev follows_all drawLaw (by kernel_rfl) Tryd.func68 (by rfl) ((s68eq x0 x1 w).trans h)
theorem e68 {x0 x1 : Value} {w : World} {Q : Value × World → Prop} (h : Brings (s68 x0 x1 w) Q) : Brings (Xcall Tryd.prog (Value.func (Fn.func 68) #[] #[]) #[x0, x1] w) Q :=
  h.call (Xcall_fn Tryd.func68 (by decide +kernel) (by rfl) _ _ _ w) fun _ h => c68 h

/-! bytes.IndexAny -/
noncomputable def s54K0 : Exit → Act → World → Option (Value × World) := seqK (fun a w => evK Tryd.prog 54 none (nav [1, 1, 1] (bodyOf Tryd.f54)) none _ a w (leaveK Tryd.prog Tryd.f54)) (leaveK Tryd.prog Tryd.f54)
noncomputable def s54K1 : Exit → Act → World → Option (Value × World) := seqK (fun a w => evK Tryd.prog 54 none (nav [1, 1, 0, 1, 0, 1, 1] (bodyOf Tryd.f54)) none _ a w s54K0) s54K0
noncomputable def s54K2 : Exit → Act → World → Option (Value × World) := seqK (fun a w => evK Tryd.prog 54 none (nav [1, 1, 0, 1, 0, 1, 0, 1, 0, 1] (bodyOf Tryd.f54)) none _ a w s54K1) s54K1
noncomputable def s54K3 : Exit → Act → World → Option (Value × World) := blockK 0 s54K2
noncomputable def s54L0 (s : List Value) (d : List Deferred) (w : World) : Option (Value × World) := loopN Tryd.prog 54 none (nav [1, 1, 0, 1, 0, 1, 0, 1, 0, 0, 1, 0, 0] (bodyOf Tryd.f54)) s54K3 s d w
noncomputable def s54K4 : Exit → Act → World → Option (Value × World) := seqK (fun a w => evK Tryd.prog 54 none (nav [1, 1, 1, 1] (bodyOf Tryd.f54)) none _ a w (leaveK Tryd.prog Tryd.f54)) (leaveK Tryd.prog Tryd.f54)
noncomputable def s54K5 : Exit → Act → World → Option (Value × World) := seqK (fun a w => evK Tryd.prog 54 none (nav [1, 1, 1, 0, 1, 0, 1, 1] (bodyOf Tryd.f54)) none _ a w s54K4) s54K4
noncomputable def s54J1 (s : List Value) (d : List Deferred) (w : World) : Option (Value × World) := s54K5 .normal ⟨s.toArray, d⟩ w
noncomputable def s54K6 : Exit → Act → World → Option (Value × World) := seqK (fun a w => evK Tryd.prog 54 none (nav [1, 1, 1, 1, 1] (bodyOf Tryd.f54)) none _ a w (leaveK Tryd.prog Tryd.f54)) (leaveK Tryd.prog Tryd.f54)
noncomputable def s54K7 : Exit → Act → World → Option (Value × World) := seqK (fun a w => evK Tryd.prog 54 none (nav [1, 1, 1, 1, 0, 1, 0, 1, 1, 0, 1] (bodyOf Tryd.f54)) none _ a w s54K6) s54K6
noncomputable def s54K8 : Exit → Act → World → Option (Value × World) := blockK 2 s54K7
noncomputable def s54L2 (s : List Value) (d : List Deferred) (w : World) : Option (Value × World) := loopN Tryd.prog 54 none (nav [1, 1, 1, 1, 0, 1, 0, 1, 1, 0, 0, 1, 0, 0] (bodyOf Tryd.f54)) s54K8 s d w
noncomputable def s54K9 : Exit → Act → World → Option (Value × World) := seqK (fun a w => evK Tryd.prog 54 none (nav [1, 1, 1, 1, 1, 1, 1] (bodyOf Tryd.f54)) none _ a w (leaveK Tryd.prog Tryd.f54)) (leaveK Tryd.prog Tryd.f54)
noncomputable def s54K10 : Exit → Act → World → Option (Value × World) := blockK 4 s54K9
noncomputable def s54L3 (s : List Value) (d : List Deferred) (w : World) : Option (Value × World) := loopN Tryd.prog 54 none (nav [1, 1, 1, 1, 1, 1, 0, 1, 0, 0] (bodyOf Tryd.f54)) s54K10 s d w
noncomputable def s54L4 (s : List Value) (d : List Deferred) (w : World) : Option (Value × World) := loopN Tryd.prog 54 none (nav [1, 1, 1, 1, 1, 1, 0, 1, 0, 0] (bodyOf Tryd.f54)) s54K10 s d w
noncomputable def s54K11 : Exit → Act → World → Option (Exit × List Value × World) := seqK (fun a w => evK Tryd.prog 54 none (nav [1, 1, 1, 1, 1, 1, 0, 1, 0, 0, 1, 1] (bodyOf Tryd.f54)) none _ a w (projK [0, 1, 4, 12])) (projK [0, 1, 4, 12])
noncomputable def s54K12 : Exit → Act → World → Option (Exit × List Value × World) := blockK 5 s54K11
noncomputable def s54K13 : Exit → Act → World → Option (Exit × List Value × World) := seqK (fun a w => evK Tryd.prog 54 none (nav [1, 1, 1, 1, 1, 1, 0, 1, 0, 0, 1, 0, 0, 1, 1, 1, 1] (bodyOf Tryd.f54)) none _ a w s54K12) s54K12
noncomputable def s54J5 (s : List Value) (d : List Deferred) (w : World) : Option (Exit × List Value × World) := s54K13 .normal ⟨s.toArray, d⟩ w
noncomputable def s54J6 (s : List Value) (d : List Deferred) (w : World) : Option (Exit × List Value × World) := s54K13 .normal ⟨s.toArray, d⟩ w
noncomputable def s54K14 : Exit → Act → World → Option (Exit × List Value × World) := blockK 6 s54K12
noncomputable def s54L7 (s : List Value) (d : List Deferred) (w : World) : Option (Exit × List Value × World) := loopN Tryd.prog 54 none (nav [1, 1, 1, 1, 1, 1, 0, 1, 0, 0, 1, 0, 0, 1, 1, 1, 1, 1, 0, 0] (bodyOf Tryd.f54)) s54K14 s d w
noncomputable def s54L8 (s : List Value) (d : List Deferred) (w : World) : Option (Exit × List Value × World) := loopN Tryd.prog 54 none (nav [1, 1, 1, 1, 1, 1, 0, 1, 0, 0, 1, 0, 0, 1, 1, 1, 1, 1, 0, 0] (bodyOf Tryd.f54)) s54K14 s d w
noncomputable def s54B8 : List Value → World → Option (Exit × List Value × World)
  | [x0, x1, x4, x11, x12, x13, x121], w =>
    (Xnext Tryd.prog x121 true 0 w).bind fun r115 =>
    (Qext r115.1 0).bind fun v116 =>
    condK v116 (
      (Qext r115.1 2).bind fun v117 =>
      (Qbin Tryd.prog .eql 21 x13 v117).bind fun v118 =>
      condK v118 (
        some (Exit.ret, [x0, x1, x12, x11, x12, x13, x121], r115.2)
      ) (
        some (Exit.normal, [x0, x1, x4, x11, x12, x13, x121], r115.2)
      )
    ) (
      some ((Exit.exit 6), [x0, x1, x4, x11, x12, x13, x121], r115.2)
    )
  | _, _ => none
noncomputable def s54R8 : Exit → List Value → World → Option (Exit × List Value × World)
  | (Exit.exit 6), [x0, x1, x4, x11, x12, _, _], w =>
    (Qbin Tryd.prog .add 3 x12 x11).bind fun v119 =>
    some (Exit.normal, [x0, x1, x4, v119], w)
  | Exit.ret, [x0, x1, x4, _, x12, _, _], w =>
    some (Exit.ret, [x0, x1, x4, x12], w)
  | _, _, _ => none
noncomputable def s54B7 : List Value → World → Option (Exit × List Value × World)
  | [x0, x1, x4, x11, x12, x13, x121], w =>
    (Xnext Tryd.prog x121 true 0 w).bind fun r110 =>
    (Qext r110.1 0).bind fun v111 =>
    condK v111 (
      (Qext r110.1 2).bind fun v112 =>
      (Qbin Tryd.prog .eql 21 x13 v112).bind fun v113 =>
      condK v113 (
        some (Exit.ret, [x0, x1, x12, x11, x12, x13, x121], r110.2)
      ) (
        some (Exit.normal, [x0, x1, x4, x11, x12, x13, x121], r110.2)
      )
    ) (
      some ((Exit.exit 6), [x0, x1, x4, x11, x12, x13, x121], r110.2)
    )
  | _, _ => none
noncomputable def s54R7 : Exit → List Value → World → Option (Exit × List Value × World)
  | (Exit.exit 6), [x0, x1, x4, x11, x12, _, _], w =>
    (Qbin Tryd.prog .add 3 x12 x11).bind fun v114 =>
    some (Exit.normal, [x0, x1, x4, v114], w)
  | Exit.ret, [x0, x1, x4, _, x12, _, _], w =>
    some (Exit.ret, [x0, x1, x4, x12], w)
  | _, _, _ => none
noncomputable def s54M6raw (aA aB aC aD aE aF aG aH aI aJ aK aL aM aN aO aP aQ aR aS aT aU aV aW aX aY aZ bA bB bC bD bE bF bG bH bI bJ bK bL bM bN bO bP bQ bR bS bT bU bV bW bX bY bZ cA cB cC cD cE cF cG cH cI cJ cK cL cM cN cO cP cQ cR cS cT cU cV cW cX cY cZ dA dB dC dD dE dF dG dH dI dJ dK dL dM dN dO dP dQ dR dS dT dU dV dW dX dY dZ eA eB eC eD eE eF eG eH eI eJ eK eL eM eN eO eP _ _ eS eT eU eV eW eX eY : Value) (w : World) : Option (Exit × List Value × World) :=
  (Xrange Tryd.prog 9 aB w).bind fun r109 =>
  s54L8 [aA,aB,aC,aD,aE,aF,aG,aH,aI,aJ,aK,aL,aM,aN,aO,aP,aQ,aR,aS,aT,aU,aV,aW,aX,aY,aZ,bA,bB,bC,bD,bE,bF,bG,bH,bI,bJ,bK,bL,bM,bN,bO,bP,bQ,bR,bS,bT,bU,bV,bW,bX,bY,bZ,cA,cB,cC,cD,cE,cF,cG,cH,cI,cJ,cK,cL,cM,cN,cO,cP,cQ,cR,cS,cT,cU,cV,cW,cX,cY,cZ,dA,dB,dC,dD,dE,dF,dG,dH,dI,dJ,dK,dL,dM,dN,dO,dP,dQ,dR,dS,dT,dU,dV,dW,dX,dY,dZ,eA,eB,eC,eD,eE,eF,eG,eH,eI,eJ,eK,eL,eM,eN,eO,eP,aB, r109.1, eS,eT,eU,eV,eW,eX,eY] [] r109.2
noncomputable def s54M6 (s0 s1 s4 s11 s12 s13 : Value) (w : World) : Option (Exit × List Value × World) :=
  (Xrange Tryd.prog 9 s1 w).bind fun r109 =>
  loopR s54B8 s54R8 [s0, s1, s4, s11, s12, s13, r109.1] r109.2
noncomputable def s54M5raw (aA aB aC aD aE aF aG aH aI aJ aK aL aM aN aO aP aQ aR aS aT aU aV aW aX aY aZ bA bB bC bD bE bF bG bH bI bJ bK bL bM bN bO bP bQ bR bS bT bU bV bW bX bY bZ cA cB cC cD cE cF cG cH cI cJ cK cL cM cN cO cP cQ cR cS cT cU cV cW cX cY cZ dA dB dC dD dE dF dG dH dI dJ dK dL dM dN dO dP dQ dR dS dT dU dV dW dX dY dZ eA eB eC eD eE eF eG eH eI eJ eK eL eM eN eO eP _ _ eS eT eU eV eW eX eY : Value) (w : World) : Option (Exit × List Value × World) :=
  (Xrange Tryd.prog 9 aB w).bind fun r108 =>
  s54L7 [aA,aB,aC,aD,aE,aF,aG,aH,aI,aJ,aK,aL,aM,aN,aO,aP,aQ,aR,aS,aT,aU,aV,aW,aX,aY,aZ,bA,bB,bC,bD,bE,bF,bG,bH,bI,bJ,bK,bL,bM,bN,bO,bP,bQ,bR,bS,bT,bU,bV,bW,bX,bY,bZ,cA,cB,cC,cD,cE,cF,cG,cH,cI,cJ,cK,cL,cM,cN,cO,cP,cQ,cR,cS,cT,cU,cV,cW,cX,cY,cZ,dA,dB,dC,dD,dE,dF,dG,dH,dI,dJ,dK,dL,dM,dN,dO,dP,dQ,dR,dS,dT,dU,dV,dW,dX,dY,dZ,eA,eB,eC,eD,eE,eF,eG,eH,eI,eJ,eK,eL,eM,eN,eO,eP,aB, r108.1, eS,eT,eU,eV,eW,eX,eY] [] r108.2
noncomputable def s54M5 (s0 s1 s4 s11 s12 s13 : Value) (w : World) : Option (Exit × List Value × World) :=
  (Xrange Tryd.prog 9 s1 w).bind fun r108 =>
  loopR s54B7 s54R7 [s0, s1, s4, s11, s12, s13, r108.1] r108.2
noncomputable def s54B4raw (g : Nat → Value) (d : List Deferred) : List Value → World → Option (Exit × List Value × World)
  | [x0, x1, x4, x12], w =>
    (Qlen Tryd.prog #[22] 3 #[x0] w).bind fun v81 =>
    (Qbin Tryd.prog .lss 3 x12 v81).bind fun v82 =>
    condK v82 (
      (QindexAddr Tryd.prog 22 x0 x12 w).bind fun v83 =>
      (Qload Tryd.prog 5 v83 w).bind fun v84 =>
      (Qconv Tryd.prog 5 21 v84).bind fun v85 =>
      (Qbin Tryd.prog .lss 21 v85 (Value.int .i32 128)).bind fun v86 =>
      condK v86 (
        (QindexAddr Tryd.prog 22 x0 x12 w).bind fun v87 =>
        (Qload Tryd.prog 5 v87 w).bind fun v88 =>
        (Xcall Tryd.prog (Value.func (Fn.func 69) #[] #[]) #[x1, v88] w).bind fun r89 =>
        (Qbin Tryd.prog .geq 3 r89.1 (Value.int .i64 0)).bind fun v90 =>
        condK v90 (
          some (Exit.ret, [x0, x1, x12, x12], r89.2)
        ) (
          (Qbin Tryd.prog .add 3 x12 (Value.int .i64 1)).bind fun v91 =>
          some (Exit.normal, [x0, x1, x4, v91], r89.2)
        )
      ) (
        (Qslice Tryd.prog 22 x0 (some x12) none none w).bind fun v92 =>
        (Xcall Tryd.prog (Value.func (Fn.func 74) #[] #[]) #[v92] w).bind fun r93 =>
        (Qext r93.1 0).bind fun v94 =>
        (Qext r93.1 1).bind fun v95 =>
        (Qbin Tryd.prog .neq 21 v94 (Value.int .i32 65533)).bind fun v96 =>
        condK v96 (
          (Qlen Tryd.prog #[9] 3 #[x1] r93.2).bind fun v97 =>
          (Qbin Tryd.prog .eql 3 v97 v95).bind fun v98 =>
          condK v98 (
            (Xconv Tryd.prog 21 9 v94 r93.2).bind fun r99 =>
            (Qbin Tryd.prog .eql 9 x1 r99.1).bind fun v100 =>
            condK v100 (
              some (Exit.ret, [x0, x1, x12, x12], r99.2)
            ) (
              (Qbin Tryd.prog .add 3 x12 v95).bind fun v101 =>
              some (Exit.normal, [x0, x1, x4, v101], r99.2)
            )
          ) (
            (Qload Tryd.prog 3 (Value.pointer (some ⟨0, 0, none⟩)) r93.2).bind fun v102 =>
            (Qbin Tryd.prog .geq 3 v102 v95).bind fun v103 =>
            condK v103 (
              (Xconv Tryd.prog 21 9 v94 r93.2).bind fun r104 =>
              (Xcall Tryd.prog (Value.func (Fn.func 75) #[] #[]) #[x1, r104.1] r104.2).bind fun r105 =>
              (Qbin Tryd.prog .geq 3 r105.1 (Value.int .i64 0)).bind fun v106 =>
              condK v106 (
                some (Exit.ret, [x0, x1, x12, x12], r105.2)
              ) (
                (Qbin Tryd.prog .add 3 x12 v95).bind fun v107 =>
                some (Exit.normal, [x0, x1, x4, v107], r105.2)
              )
            ) (
              s54J6 [x0, x1, g 2,g 3, x4, g 5,g 6,g 7,g 8,g 9,g 10, v95, x12, v94, g 14,g 15,g 16,g 17,g 18,g 19,g 20,g 21,g 22,g 23,g 24,g 25,g 26,g 27,g 28,g 29,g 30,g 31,g 32,g 33,g 34,g 35,g 36,g 37,g 38,g 39,g 40,g 41,g 42,g 43,g 44,g 45,g 46,g 47,g 48,g 49,g 50,g 51,g 52,g 53,g 54,g 55,g 56,g 57,g 58,g 59,g 60,g 61,g 62,g 63,g 64,g 65,g 66,g 67,g 68,g 69,g 70, x12, x0, v81, v82, g 75,g 76,g 77, x0, x12, v83, v84, v85, v85, v86, g 85,g 86,g 87,g 88,g 89,g 90,g 91,g 92, r93.1, x0, x12, v92, r93.1, v94, v95, v94, v96, x1, v97, v95, v98, g 106,g 107,g 108,g 109,g 110, v102, v95, v103, g 114,g 115,g 116,g 117,g 118,g 119,g 120,g 121,g 122,g 123,g 124,g 125,g 126,g 127,g 128] d r93.2
            )
          )
        ) (
          s54J6 [x0, x1, g 2,g 3, x4, g 5,g 6,g 7,g 8,g 9,g 10, v95, x12, v94, g 14,g 15,g 16,g 17,g 18,g 19,g 20,g 21,g 22,g 23,g 24,g 25,g 26,g 27,g 28,g 29,g 30,g 31,g 32,g 33,g 34,g 35,g 36,g 37,g 38,g 39,g 40,g 41,g 42,g 43,g 44,g 45,g 46,g 47,g 48,g 49,g 50,g 51,g 52,g 53,g 54,g 55,g 56,g 57,g 58,g 59,g 60,g 61,g 62,g 63,g 64,g 65,g 66,g 67,g 68,g 69,g 70, x12, x0, v81, v82, g 75,g 76,g 77, x0, x12, v83, v84, v85, v85, v86, g 85,g 86,g 87,g 88,g 89,g 90,g 91,g 92, r93.1, x0, x12, v92, r93.1, v94, v95, v94, v96, g 102,g 103,g 104,g 105,g 106,g 107,g 108,g 109,g 110,g 111,g 112,g 113,g 114,g 115,g 116,g 117,g 118,g 119,g 120,g 121,g 122,g 123,g 124,g 125,g 126,g 127,g 128] d r93.2
        )
      )
    ) (
      some ((Exit.exit 4), [x0, x1, x4, x12], w)
    )
  | _, _ => none
noncomputable def s54B4 : List Value → World → Option (Exit × List Value × World)
  | [x0, x1, x4, x12], w =>
    (Qlen Tryd.prog #[22] 3 #[x0] w).bind fun v81 =>
    (Qbin Tryd.prog .lss 3 x12 v81).bind fun v82 =>
    condK v82 (
      (QindexAddr Tryd.prog 22 x0 x12 w).bind fun v83 =>
      (Qload Tryd.prog 5 v83 w).bind fun v84 =>
      (Qconv Tryd.prog 5 21 v84).bind fun v85 =>
      (Qbin Tryd.prog .lss 21 v85 (Value.int .i32 128)).bind fun v86 =>
      condK v86 (
        (QindexAddr Tryd.prog 22 x0 x12 w).bind fun v87 =>
        (Qload Tryd.prog 5 v87 w).bind fun v88 =>
        (Xcall Tryd.prog (Value.func (Fn.func 69) #[] #[]) #[x1, v88] w).bind fun r89 =>
        (Qbin Tryd.prog .geq 3 r89.1 (Value.int .i64 0)).bind fun v90 =>
        condK v90 (
          some (Exit.ret, [x0, x1, x12, x12], r89.2)
        ) (
          (Qbin Tryd.prog .add 3 x12 (Value.int .i64 1)).bind fun v91 =>
          some (Exit.normal, [x0, x1, x4, v91], r89.2)
        )
      ) (
        (Qslice Tryd.prog 22 x0 (some x12) none none w).bind fun v92 =>
        (Xcall Tryd.prog (Value.func (Fn.func 74) #[] #[]) #[v92] w).bind fun r93 =>
        (Qext r93.1 0).bind fun v94 =>
        (Qext r93.1 1).bind fun v95 =>
        (Qbin Tryd.prog .neq 21 v94 (Value.int .i32 65533)).bind fun v96 =>
        condK v96 (
          (Qlen Tryd.prog #[9] 3 #[x1] r93.2).bind fun v97 =>
          (Qbin Tryd.prog .eql 3 v97 v95).bind fun v98 =>
          condK v98 (
            (Xconv Tryd.prog 21 9 v94 r93.2).bind fun r99 =>
            (Qbin Tryd.prog .eql 9 x1 r99.1).bind fun v100 =>
            condK v100 (
              some (Exit.ret, [x0, x1, x12, x12], r99.2)
            ) (
              (Qbin Tryd.prog .add 3 x12 v95).bind fun v101 =>
              some (Exit.normal, [x0, x1, x4, v101], r99.2)
            )
          ) (
            (Qload Tryd.prog 3 (Value.pointer (some ⟨0, 0, none⟩)) r93.2).bind fun v102 =>
            (Qbin Tryd.prog .geq 3 v102 v95).bind fun v103 =>
            condK v103 (
              (Xconv Tryd.prog 21 9 v94 r93.2).bind fun r104 =>
              (Xcall Tryd.prog (Value.func (Fn.func 75) #[] #[]) #[x1, r104.1] r104.2).bind fun r105 =>
              (Qbin Tryd.prog .geq 3 r105.1 (Value.int .i64 0)).bind fun v106 =>
              condK v106 (
                some (Exit.ret, [x0, x1, x12, x12], r105.2)
              ) (
                (Qbin Tryd.prog .add 3 x12 v95).bind fun v107 =>
                some (Exit.normal, [x0, x1, x4, v107], r105.2)
              )
            ) (
              s54M6 x0 x1 x4 v95 x12 v94 r93.2
            )
          )
        ) (
          s54M6 x0 x1 x4 v95 x12 v94 r93.2
        )
      )
    ) (
      some ((Exit.exit 4), [x0, x1, x4, x12], w)
    )
  | _, _ => none
noncomputable def s54R4 : Exit → List Value → World → Option (Value × World)
  | (Exit.exit 4), [_, _, _, _], w =>
    some ((Value.int .i64 (-1)), w)
  | Exit.ret, [_, _, x4, _], w =>
    some (x4, w)
  | _, _, _ => none
noncomputable def s54B3raw (g : Nat → Value) (d : List Deferred) : List Value → World → Option (Exit × List Value × World)
  | [x0, x1, x4, x12], w =>
    (Qlen Tryd.prog #[22] 3 #[x0] w).bind fun v54 =>
    (Qbin Tryd.prog .lss 3 x12 v54).bind fun v55 =>
    condK v55 (
      (QindexAddr Tryd.prog 22 x0 x12 w).bind fun v56 =>
      (Qload Tryd.prog 5 v56 w).bind fun v57 =>
      (Qconv Tryd.prog 5 21 v57).bind fun v58 =>
      (Qbin Tryd.prog .lss 21 v58 (Value.int .i32 128)).bind fun v59 =>
      condK v59 (
        (QindexAddr Tryd.prog 22 x0 x12 w).bind fun v60 =>
        (Qload Tryd.prog 5 v60 w).bind fun v61 =>
        (Xcall Tryd.prog (Value.func (Fn.func 69) #[] #[]) #[x1, v61] w).bind fun r62 =>
        (Qbin Tryd.prog .geq 3 r62.1 (Value.int .i64 0)).bind fun v63 =>
        condK v63 (
          some (Exit.ret, [x0, x1, x12, x12], r62.2)
        ) (
          (Qbin Tryd.prog .add 3 x12 (Value.int .i64 1)).bind fun v64 =>
          some (Exit.normal, [x0, x1, x4, v64], r62.2)
        )
      ) (
        (Qslice Tryd.prog 22 x0 (some x12) none none w).bind fun v65 =>
        (Xcall Tryd.prog (Value.func (Fn.func 74) #[] #[]) #[v65] w).bind fun r66 =>
        (Qext r66.1 0).bind fun v67 =>
        (Qext r66.1 1).bind fun v68 =>
        (Qbin Tryd.prog .neq 21 v67 (Value.int .i32 65533)).bind fun v69 =>
        condK v69 (
          (Qlen Tryd.prog #[9] 3 #[x1] r66.2).bind fun v70 =>
          (Qbin Tryd.prog .eql 3 v70 v68).bind fun v71 =>
          condK v71 (
            (Xconv Tryd.prog 21 9 v67 r66.2).bind fun r72 =>
            (Qbin Tryd.prog .eql 9 x1 r72.1).bind fun v73 =>
            condK v73 (
              some (Exit.ret, [x0, x1, x12, x12], r72.2)
            ) (
              (Qbin Tryd.prog .add 3 x12 v68).bind fun v74 =>
              some (Exit.normal, [x0, x1, x4, v74], r72.2)
            )
          ) (
            (Qload Tryd.prog 3 (Value.pointer (some ⟨0, 0, none⟩)) r66.2).bind fun v75 =>
            (Qbin Tryd.prog .geq 3 v75 v68).bind fun v76 =>
            condK v76 (
              (Xconv Tryd.prog 21 9 v67 r66.2).bind fun r77 =>
              (Xcall Tryd.prog (Value.func (Fn.func 75) #[] #[]) #[x1, r77.1] r77.2).bind fun r78 =>
              (Qbin Tryd.prog .geq 3 r78.1 (Value.int .i64 0)).bind fun v79 =>
              condK v79 (
                some (Exit.ret, [x0, x1, x12, x12], r78.2)
              ) (
                (Qbin Tryd.prog .add 3 x12 v68).bind fun v80 =>
                some (Exit.normal, [x0, x1, x4, v80], r78.2)
              )
            ) (
              s54J5 [x0, x1, g 2,g 3, x4, g 5,g 6,g 7,g 8,g 9,g 10, v68, x12, v67, g 14,g 15,g 16,g 17,g 18,g 19,g 20,g 21,g 22,g 23,g 24,g 25,g 26,g 27,g 28,g 29,g 30,g 31,g 32,g 33,g 34,g 35,g 36,g 37,g 38,g 39,g 40,g 41,g 42,g 43,g 44,g 45,g 46,g 47,g 48,g 49,g 50,g 51,g 52,g 53,g 54,g 55,g 56,g 57,g 58,g 59,g 60,g 61,g 62,g 63,g 64,g 65,g 66,g 67,g 68,g 69,g 70, x12, x0, v54, v55, g 75,g 76,g 77, x0, x12, v56, v57, v58, v58, v59, g 85,g 86,g 87,g 88,g 89,g 90,g 91,g 92, r66.1, x0, x12, v65, r66.1, v67, v68, v67, v69, x1, v70, v68, v71, g 106,g 107,g 108,g 109,g 110, v75, v68, v76, g 114,g 115,g 116,g 117,g 118,g 119,g 120,g 121,g 122,g 123,g 124,g 125,g 126,g 127,g 128] d r66.2
            )
          )
        ) (
          s54J5 [x0, x1, g 2,g 3, x4, g 5,g 6,g 7,g 8,g 9,g 10, v68, x12, v67, g 14,g 15,g 16,g 17,g 18,g 19,g 20,g 21,g 22,g 23,g 24,g 25,g 26,g 27,g 28,g 29,g 30,g 31,g 32,g 33,g 34,g 35,g 36,g 37,g 38,g 39,g 40,g 41,g 42,g 43,g 44,g 45,g 46,g 47,g 48,g 49,g 50,g 51,g 52,g 53,g 54,g 55,g 56,g 57,g 58,g 59,g 60,g 61,g 62,g 63,g 64,g 65,g 66,g 67,g 68,g 69,g 70, x12, x0, v54, v55, g 75,g 76,g 77, x0, x12, v56, v57, v58, v58, v59, g 85,g 86,g 87,g 88,g 89,g 90,g 91,g 92, r66.1, x0, x12, v65, r66.1, v67, v68, v67, v69, g 102,g 103,g 104,g 105,g 106,g 107,g 108,g 109,g 110,g 111,g 112,g 113,g 114,g 115,g 116,g 117,g 118,g 119,g 120,g 121,g 122,g 123,g 124,g 125,g 126,g 127,g 128] d r66.2
        )
      )
    ) (
      some ((Exit.exit 4), [x0, x1, x4, x12], w)
    )
  | _, _ => none
noncomputable def s54B3 : List Value → World → Option (Exit × List Value × World)
  | [x0, x1, x4, x12], w =>
    (Qlen Tryd.prog #[22] 3 #[x0] w).bind fun v54 =>
    (Qbin Tryd.prog .lss 3 x12 v54).bind fun v55 =>
    condK v55 (
      (QindexAddr Tryd.prog 22 x0 x12 w).bind fun v56 =>
      (Qload Tryd.prog 5 v56 w).bind fun v57 =>
      (Qconv Tryd.prog 5 21 v57).bind fun v58 =>
      (Qbin Tryd.prog .lss 21 v58 (Value.int .i32 128)).bind fun v59 =>
      condK v59 (
        (QindexAddr Tryd.prog 22 x0 x12 w).bind fun v60 =>
        (Qload Tryd.prog 5 v60 w).bind fun v61 =>
        (Xcall Tryd.prog (Value.func (Fn.func 69) #[] #[]) #[x1, v61] w).bind fun r62 =>
        (Qbin Tryd.prog .geq 3 r62.1 (Value.int .i64 0)).bind fun v63 =>
        condK v63 (
          some (Exit.ret, [x0, x1, x12, x12], r62.2)
        ) (
          (Qbin Tryd.prog .add 3 x12 (Value.int .i64 1)).bind fun v64 =>
          some (Exit.normal, [x0, x1, x4, v64], r62.2)
        )
      ) (
        (Qslice Tryd.prog 22 x0 (some x12) none none w).bind fun v65 =>
        (Xcall Tryd.prog (Value.func (Fn.func 74) #[] #[]) #[v65] w).bind fun r66 =>
        (Qext r66.1 0).bind fun v67 =>
        (Qext r66.1 1).bind fun v68 =>
        (Qbin Tryd.prog .neq 21 v67 (Value.int .i32 65533)).bind fun v69 =>
        condK v69 (
          (Qlen Tryd.prog #[9] 3 #[x1] r66.2).bind fun v70 =>
          (Qbin Tryd.prog .eql 3 v70 v68).bind fun v71 =>
          condK v71 (
            (Xconv Tryd.prog 21 9 v67 r66.2).bind fun r72 =>
            (Qbin Tryd.prog .eql 9 x1 r72.1).bind fun v73 =>
            condK v73 (
              some (Exit.ret, [x0, x1, x12, x12], r72.2)
            ) (
              (Qbin Tryd.prog .add 3 x12 v68).bind fun v74 =>
              some (Exit.normal, [x0, x1, x4, v74], r72.2)
            )
          ) (
            (Qload Tryd.prog 3 (Value.pointer (some ⟨0, 0, none⟩)) r66.2).bind fun v75 =>
            (Qbin Tryd.prog .geq 3 v75 v68).bind fun v76 =>
            condK v76 (
              (Xconv Tryd.prog 21 9 v67 r66.2).bind fun r77 =>
              (Xcall Tryd.prog (Value.func (Fn.func 75) #[] #[]) #[x1, r77.1] r77.2).bind fun r78 =>
              (Qbin Tryd.prog .geq 3 r78.1 (Value.int .i64 0)).bind fun v79 =>
              condK v79 (
                some (Exit.ret, [x0, x1, x12, x12], r78.2)
              ) (
                (Qbin Tryd.prog .add 3 x12 v68).bind fun v80 =>
                some (Exit.normal, [x0, x1, x4, v80], r78.2)
              )
            ) (
              s54M5 x0 x1 x4 v68 x12 v67 r66.2
            )
          )
        ) (
          s54M5 x0 x1 x4 v68 x12 v67 r66.2
        )
      )
    ) (
      some ((Exit.exit 4), [x0, x1, x4, x12], w)
    )
  | _, _ => none
noncomputable def s54R3 : Exit → List Value → World → Option (Value × World)
  | (Exit.exit 4), [_, _, _, _], w =>
    some ((Value.int .i64 (-1)), w)
  | Exit.ret, [_, _, x4, _], w =>
    some (x4, w)
  | _, _, _ => none
noncomputable def s54B2 : List Value → World → Option (Exit × List Value × World)
  | [x4, x7, x60, x61, x62], w =>
    (Qbin Tryd.prog .lss 3 x62 x61).bind fun v49 =>
    condK v49 (
      (QindexAddr Tryd.prog 22 x60 x62 w).bind fun v50 =>
      (Qload Tryd.prog 5 v50 w).bind fun v51 =>
      (Xcall Tryd.prog (Value.func (Fn.func 73) #[] #[]) #[x7, v51] w).bind fun r52 =>
      condK r52.1 (
        some (Exit.ret, [x62, x7, x60, x61, x62], r52.2)
      ) (
        (Qbin Tryd.prog .add 3 x62 (Value.int .i64 1)).bind fun v53 =>
        some (Exit.normal, [x4, x7, x60, x61, v53], r52.2)
      )
    ) (
      some ((Exit.exit 2), [x4, x7, x60, x61, x62], w)
    )
  | _, _ => none
noncomputable def s54R2 : Exit → List Value → World → Option (Value × World)
  | (Exit.exit 2), [_, _, _, _, _], w =>
    some ((Value.int .i64 (-1)), w)
  | Exit.ret, [x4, _, _, _, _], w =>
    some (x4, w)
  | _, _, _ => none
noncomputable def s54M1 (s0 s6 : Value) (w : World) : Option (Value × World) :=
  (Xcall Tryd.prog (Value.func (Fn.func 70) #[] #[]) #[s0, s6] w).bind fun r48 =>
  some (r48.1, r48.2)
noncomputable def s54B0 : List Value → World → Option (Exit × List Value × World)
  | [x4, x28], w =>
    (Xnext Tryd.prog x28 true 0 w).bind fun r44 =>
    (Qext r44.1 0).bind fun v45 =>
    condK v45 (
      (Qext r44.1 2).bind fun v46 =>
      (Qbin Tryd.prog .eql 21 v46 (Value.int .i32 65533)).bind fun v47 =>
      condK v47 (
        some (Exit.ret, [(Value.int .i64 0), x28], r44.2)
      ) (
        some (Exit.normal, [x4, x28], r44.2)
      )
    ) (
      some ((Exit.exit 0), [x4, x28], r44.2)
    )
  | _, _ => none
noncomputable def s54R0 : Exit → List Value → World → Option (Value × World)
  | (Exit.exit 0), [_, _], w =>
    some ((Value.int .i64 (-1)), w)
  | Exit.ret, [x4, _], w =>
    some (x4, w)
  | _, _, _ => none
noncomputable def s54raw (x0 x1 : Value) (w : World) : Option (Value × World) :=
  (Qbin Tryd.prog .eql 9 x1 (Value.string { data := #[] })).bind fun v19 =>
  condK v19 (
    some ((Value.int .i64 (-1)), w)
  ) (
    (Qlen Tryd.prog #[22] 3 #[x0] w).bind fun v20 =>
    (Qbin Tryd.prog .eql 3 v20 (Value.int .i64 1)).bind fun v21 =>
    condK v21 (
      (QindexAddr Tryd.prog 22 x0 (Value.int .i64 0) w).bind fun v22 =>
      (Qload Tryd.prog 5 v22 w).bind fun v23 =>
      (Qconv Tryd.prog 5 21 v23).bind fun v24 =>
      (Qbin Tryd.prog .geq 21 v24 (Value.int .i32 128)).bind fun v25 =>
      condK v25 (
        (Xrange Tryd.prog 9 x1 w).bind fun r26 =>
        s54L0 [x0, x1, undef, undef, (Value.int .i64 0), v24, undef, undef, undef, undef, undef, undef, undef, undef, undef, undef, x1, v19, x0, v20, v21, x0, v22, v23, v24, v24, v25, x1, r26.1, undef, undef, undef, undef, undef, undef, undef, undef, undef, undef, undef, undef, undef, undef, undef, undef, undef, undef, undef, undef, undef, undef, undef, undef, undef, undef, undef, undef, undef, undef, undef, undef, undef, undef, undef, undef, undef, undef, undef, undef, undef, undef, undef, undef, undef, undef, undef, undef, undef, undef, undef, undef, undef, undef, undef, undef, undef, undef, undef, undef, undef, undef, undef, undef, undef, undef, undef, undef, undef, undef, undef, undef, undef, undef, undef, undef, undef, undef, undef, undef, undef, undef, undef, undef, undef, undef, undef, undef, undef, undef, undef, undef, undef, undef, undef, undef, undef, undef, undef, undef] [] r26.2
      ) (
        (QindexAddr Tryd.prog 22 x0 (Value.int .i64 0) w).bind fun v27 =>
        (Qload Tryd.prog 5 v27 w).bind fun v28 =>
        (Xcall Tryd.prog (Value.func (Fn.func 69) #[] #[]) #[x1, v28] w).bind fun r29 =>
        (Qbin Tryd.prog .geq 3 r29.1 (Value.int .i64 0)).bind fun v30 =>
        condK v30 (
          some ((Value.int .i64 0), r29.2)
        ) (
          some ((Value.int .i64 (-1)), r29.2)
        )
      )
    ) (
      (Qlen Tryd.prog #[9] 3 #[x1] w).bind fun v31 =>
      (Qbin Tryd.prog .eql 3 v31 (Value.int .i64 1)).bind fun v32 =>
      condK v32 (
        (Qindex Tryd.prog 9 x1 (Value.int .i64 0) w).bind fun v33 =>
        (Qconv Tryd.prog 5 21 v33).bind fun v34 =>
        (Qbin Tryd.prog .geq 21 v34 (Value.int .i32 128)).bind fun v35 =>
        condK v35 (
          s54J1 [x0, x1, undef, undef, (Value.int .i64 0), undef, (Value.int .i32 65533), undef, undef, undef, undef, undef, undef, undef, undef, undef, x1, v19, x0, v20, v21, undef, undef, undef, undef, undef, undef, undef, undef, undef, undef, undef, undef, undef, undef, undef, undef, undef, undef, undef, x1, v31, v32, x1, v33, v34, v34, v35, undef, undef, undef, undef, undef, undef, undef, undef, undef, undef, undef, undef, undef, undef, undef, undef, undef, undef, undef, undef, undef, undef, undef, undef, undef, undef, undef, undef, undef, undef, undef, undef, undef, undef, undef, undef, undef, undef, undef, undef, undef, undef, undef, undef, undef, undef, undef, undef, undef, undef, undef, undef, undef, undef, undef, undef, undef, undef, undef, undef, undef, undef, undef, undef, undef, undef, undef, undef, undef, undef, undef, undef, undef, undef, undef, undef, undef, undef, undef, undef, undef] [] w
        ) (
          s54J1 [x0, x1, undef, undef, (Value.int .i64 0), undef, v34, undef, undef, undef, undef, undef, undef, undef, undef, undef, x1, v19, x0, v20, v21, undef, undef, undef, undef, undef, undef, undef, undef, undef, undef, undef, undef, undef, undef, undef, undef, undef, undef, undef, x1, v31, v32, x1, v33, v34, v34, v35, undef, undef, undef, undef, undef, undef, undef, undef, undef, undef, undef, undef, undef, undef, undef, undef, undef, undef, undef, undef, undef, undef, undef, undef, undef, undef, undef, undef, undef, undef, undef, undef, undef, undef, undef, undef, undef, undef, undef, undef, undef, undef, undef, undef, undef, undef, undef, undef, undef, undef, undef, undef, undef, undef, undef, undef, undef, undef, undef, undef, undef, undef, undef, undef, undef, undef, undef, undef, undef, undef, undef, undef, undef, undef, undef, undef, undef, undef, undef, undef, undef] [] w
        )
      ) (
        (Qlen Tryd.prog #[22] 3 #[x0] w).bind fun v36 =>
        (Xcall Tryd.prog (Value.func (Fn.func 71) #[] #[]) #[v36] w).bind fun r37 =>
        condK r37.1 (
          (Xcall Tryd.prog (Value.func (Fn.func 72) #[] #[]) #[x1] r37.2).bind fun r38 =>
          (Qext r38.1 0).bind fun v39 =>
          (Qext r38.1 1).bind fun v40 =>
          (Xalloc Tryd.prog 129 r38.2).bind fun r41 =>
          (Xstore Tryd.prog 129 r41.1 v39 r41.2).bind fun r42 =>
          condK v40 (
            (Qlen Tryd.prog #[22] 3 #[x0] r42.2).bind fun v43 =>
            s54L2 [x0, x1, undef, undef, (Value.int .i64 0), undef, undef, r41.1, v40, undef, undef, undef, undef, undef, undef, undef, x1, v19, x0, v20, v21, undef, undef, undef, undef, undef, undef, undef, undef, undef, undef, undef, undef, undef, undef, undef, undef, undef, undef, undef, x1, v31, v32, undef, undef, undef, undef, undef, undef, undef, undef, x0, v36, r37.1, r38.1, x1, r38.1, v39, v40, v40, x0, v43, (Value.int .i64 0), undef, undef, undef, undef, undef, undef, undef, undef, undef, undef, undef, undef, undef, undef, undef, undef, undef, undef, undef, undef, undef, undef, undef, undef, undef, undef, undef, undef, undef, undef, undef, undef, undef, undef, undef, undef, undef, undef, undef, undef, undef, undef, undef, undef, undef, undef, undef, undef, undef, undef, undef, undef, undef, undef, undef, undef, undef, undef, undef, undef, undef, undef, undef, undef, undef, undef] [] r42.2
          ) (
            s54L3 [x0, x1, undef, undef, (Value.int .i64 0), undef, undef, r41.1, v40, undef, undef, (Value.int .i64 0), (Value.int .i64 0), undef, undef, undef, x1, v19, x0, v20, v21, undef, undef, undef, undef, undef, undef, undef, undef, undef, undef, undef, undef, undef, undef, undef, undef, undef, undef, undef, x1, v31, v32, undef, undef, undef, undef, undef, undef, undef, undef, x0, v36, r37.1, r38.1, x1, r38.1, v39, v40, v40, undef, undef, undef, undef, undef, undef, undef, undef, undef, undef, undef, undef, undef, undef, undef, undef, undef, undef, undef, undef, undef, undef, undef, undef, undef, undef, undef, undef, undef, undef, undef, undef, undef, undef, undef, undef, undef, undef, undef, undef, undef, undef, undef, undef, undef, undef, undef, undef, undef, undef, undef, undef, undef, undef, undef, undef, undef, undef, undef, undef, undef, undef, undef, undef, undef, undef, undef, undef, undef] [] r42.2
          )
        ) (
          s54L4 [x0, x1, undef, undef, (Value.int .i64 0), undef, undef, undef, undef, undef, undef, (Value.int .i64 0), (Value.int .i64 0), undef, undef, undef, x1, v19, x0, v20, v21, undef, undef, undef, undef, undef, undef, undef, undef, undef, undef, undef, undef, undef, undef, undef, undef, undef, undef, undef, x1, v31, v32, undef, undef, undef, undef, undef, undef, undef, undef, x0, v36, r37.1, undef, undef, undef, undef, undef, undef, undef, undef, undef, undef, undef, undef, undef, undef, undef, undef, undef, undef, undef, undef, undef, undef, undef, undef, undef, undef, undef, undef, undef, undef, undef, undef, undef, undef, undef, undef, undef, undef, undef, undef, undef, undef, undef, undef, undef, undef, undef, undef, undef, undef, undef, undef, undef, undef, undef, undef, undef, undef, undef, undef, undef, undef, undef, undef, undef, undef, undef, undef, undef, undef, undef, undef, undef, undef, undef] [] r37.2
        )
      )
    )
  )
noncomputable def s54 (x0 x1 : Value) (w : World) : Option (Value × World) :=
  (Qbin Tryd.prog .eql 9 x1 (Value.string { data := #[] })).bind fun v19 =>
  condK v19 (
    some ((Value.int .i64 (-1)), w)
  ) (
    (Qlen Tryd.prog #[22] 3 #[x0] w).bind fun v20 =>
    (Qbin Tryd.prog .eql 3 v20 (Value.int .i64 1)).bind fun v21 =>
    condK v21 (
      (QindexAddr Tryd.prog 22 x0 (Value.int .i64 0) w).bind fun v22 =>
      (Qload Tryd.prog 5 v22 w).bind fun v23 =>
      (Qconv Tryd.prog 5 21 v23).bind fun v24 =>
      (Qbin Tryd.prog .geq 21 v24 (Value.int .i32 128)).bind fun v25 =>
      condK v25 (
        (Xrange Tryd.prog 9 x1 w).bind fun r26 =>
        loopR s54B0 s54R0 [(Value.int .i64 0), r26.1] r26.2
      ) (
        (QindexAddr Tryd.prog 22 x0 (Value.int .i64 0) w).bind fun v27 =>
        (Qload Tryd.prog 5 v27 w).bind fun v28 =>
        (Xcall Tryd.prog (Value.func (Fn.func 69) #[] #[]) #[x1, v28] w).bind fun r29 =>
        (Qbin Tryd.prog .geq 3 r29.1 (Value.int .i64 0)).bind fun v30 =>
        condK v30 (
          some ((Value.int .i64 0), r29.2)
        ) (
          some ((Value.int .i64 (-1)), r29.2)
        )
      )
    ) (
      (Qlen Tryd.prog #[9] 3 #[x1] w).bind fun v31 =>
      (Qbin Tryd.prog .eql 3 v31 (Value.int .i64 1)).bind fun v32 =>
      condK v32 (
        (Qindex Tryd.prog 9 x1 (Value.int .i64 0) w).bind fun v33 =>
        (Qconv Tryd.prog 5 21 v33).bind fun v34 =>
        (Qbin Tryd.prog .geq 21 v34 (Value.int .i32 128)).bind fun v35 =>
        condK v35 (
          s54M1 x0 (Value.int .i32 65533) w
        ) (
          s54M1 x0 v34 w
        )
      ) (
        (Qlen Tryd.prog #[22] 3 #[x0] w).bind fun v36 =>
        (Xcall Tryd.prog (Value.func (Fn.func 71) #[] #[]) #[v36] w).bind fun r37 =>
        condK r37.1 (
          (Xcall Tryd.prog (Value.func (Fn.func 72) #[] #[]) #[x1] r37.2).bind fun r38 =>
          (Qext r38.1 0).bind fun v39 =>
          (Qext r38.1 1).bind fun v40 =>
          (Xalloc Tryd.prog 129 r38.2).bind fun r41 =>
          (Xstore Tryd.prog 129 r41.1 v39 r41.2).bind fun r42 =>
          condK v40 (
            (Qlen Tryd.prog #[22] 3 #[x0] r42.2).bind fun v43 =>
            loopR s54B2 s54R2 [(Value.int .i64 0), r41.1, x0, v43, (Value.int .i64 0)] r42.2
          ) (
            loopR s54B3 s54R3 [x0, x1, (Value.int .i64 0), (Value.int .i64 0)] r42.2
          )
        ) (
          loopR s54B4 s54R4 [x0, x1, (Value.int .i64 0), (Value.int .i64 0)] r37.2
        )
      )
    )
  )
theorem s54B8eq (x0 x1 x4 x11 x12 x13 x121 : Value) (w : World) (g : Nat → Value) (d : List Deferred) : evK Tryd.prog 54 none (nav [1, 1, 1, 1, 1, 1, 0, 1, 0, 0, 1, 0, 0, 1, 1, 1, 1, 1, 0, 0] (bodyOf Tryd.f54)) none _ (frm 129 (setL [0, 1, 4, 11, 12, 13, 121] [x0, x1, x4, x11, x12, x13, x121] g) d) w (projK [0, 1, 4, 11, 12, 13, 121]) = s54B8 [x0, x1, x4, x11, x12, x13, x121] w := by kernel_rfl
theorem s54R8x6eq (x0 x1 x4 x11 x12 x13 x121 : Value) (g : Nat → Value) (w : World) : s54K14 (Exit.exit 6) (frm 129 (setL [0, 1, 4, 11, 12, 13, 121] [x0, x1, x4, x11, x12, x13, x121] g) []) w = s54R8 (Exit.exit 6) [x0, x1, x4, x11, x12, x13, x121] w := by kernel_rfl
theorem s54R8ret_eq (x0 x1 x4 x11 x12 x13 x121 : Value) (g : Nat → Value) (w : World) : s54K14 Exit.ret (frm 129 (setL [0, 1, 4, 11, 12, 13, 121] [x0, x1, x4, x11, x12, x13, x121] g) []) w = s54R8 Exit.ret [x0, x1, x4, x11, x12, x13, x121] w := by kernel_rfl
theorem s54R8of : ∀ (e : Exit) (xs : List Value) (w : World) (g : Nat → Value) (y : _), s54R8 e xs w = some y → s54K14 e (frm 129 (setL [0, 1, 4, 11, 12, 13, 121] xs g) []) w = some y := by
  intro e xs w g y h
  unfold s54R8 at h
  split at h
  · exact (s54R8x6eq _ _ _ _ _ _ _ g _).trans h
  · exact (s54R8ret_eq _ _ _ _ _ _ _ g _).trans h
  · cases h
set_option maxRecDepth 20000 in
theorem s54L8of {aA aB aC aD aE aF aG aH aI aJ aK aL aM aN aO aP aQ aR aS aT aU aV aW aX aY aZ bA bB bC bD bE bF bG bH bI bJ bK bL bM bN bO bP bQ bR bS bT bU bV bW bX bY bZ cA cB cC cD cE cF cG cH cI cJ cK cL cM cN cO cP cQ cR cS cT cU cV cW cX cY cZ dA dB dC dD dE dF dG dH dI dJ dK dL dM dN dO dP dQ dR dS dT dU dV dW dX dY dZ eA eB eC eD eE eF eG eH eI eJ eK eL eM eN eO eP eQ eR eS eT eU eV eW eX eY : Value} {w : World} {r : _} (h : loopR s54B8 s54R8 [aA,aB,aE,aL,aM,aN,eR] w = some r) : s54L8 [aA,aB,aC,aD,aE,aF,aG,aH,aI,aJ,aK,aL,aM,aN,aO,aP,aQ,aR,aS,aT,aU,aV,aW,aX,aY,aZ,bA,bB,bC,bD,bE,bF,bG,bH,bI,bJ,bK,bL,bM,bN,bO,bP,bQ,bR,bS,bT,bU,bV,bW,bX,bY,bZ,cA,cB,cC,cD,cE,cF,cG,cH,cI,cJ,cK,cL,cM,cN,cO,cP,cQ,cR,cS,cT,cU,cV,cW,cX,cY,cZ,dA,dB,dC,dD,dE,dF,dG,dH,dI,dJ,dK,dL,dM,dN,dO,dP,dQ,dR,dS,dT,dU,dV,dW,dX,dY,dZ,eA,eB,eC,eD,eE,eF,eG,eH,eI,eJ,eK,eL,eM,eN,eO,eP,eQ,eR,eS,eT,eU,eV,eW,eX,eY] [] w = some r :=
  loopN_of (B := s54B8) (R := s54R8) (n := 129) (live := [0, 1, 4, 11, 12, 13, 121]) (fun xs w g y hl h => match xs, hl, h with | [x0, x1, x4, x11, x12, x13, x121], _, h => (s54B8eq x0 x1 x4 x11 x12 x13 x121 w g []).trans h) (by kernel_rfl) (s54R8of) (fun i => ([aA,aB,aC,aD,aE,aF,aG,aH,aI,aJ,aK,aL,aM,aN,aO,aP,aQ,aR,aS,aT,aU,aV,aW,aX,aY,aZ,bA,bB,bC,bD,bE,bF,bG,bH,bI,bJ,bK,bL,bM,bN,bO,bP,bQ,bR,bS,bT,bU,bV,bW,bX,bY,bZ,cA,cB,cC,cD,cE,cF,cG,cH,cI,cJ,cK,cL,cM,cN,cO,cP,cQ,cR,cS,cT,cU,cV,cW,cX,cY,cZ,dA,dB,dC,dD,dE,dF,dG,dH,dI,dJ,dK,dL,dM,dN,dO,dP,dQ,dR,dS,dT,dU,dV,dW,dX,dY,dZ,eA,eB,eC,eD,eE,eF,eG,eH,eI,eJ,eK,eL,eM,eN,eO,eP,eQ,eR,eS,eT,eU,eV,eW,eX,eY] : List Value).getD i undef) (by kernel_rfl) rfl h
theorem s54B7eq (x0 x1 x4 x11 x12 x13 x121 : Value) (w : World) (g : Nat → Value) (d : List Deferred) : evK Tryd.prog 54 none (nav [1, 1, 1, 1, 1, 1, 0, 1, 0, 0, 1, 0, 0, 1, 1, 1, 1, 1, 0, 0] (bodyOf Tryd.f54)) none _ (frm 129 (setL [0, 1, 4, 11, 12, 13, 121] [x0, x1, x4, x11, x12, x13, x121] g) d) w (projK [0, 1, 4, 11, 12, 13, 121]) = s54B7 [x0, x1, x4, x11, x12, x13, x121] w := by kernel_rfl
theorem s54R7x6eq (x0 x1 x4 x11 x12 x13 x121 : Value) (g : Nat → Value) (w : World) : s54K14 (Exit.exit 6) (frm 129 (setL [0, 1, 4, 11, 12, 13, 121] [x0, x1, x4, x11, x12, x13, x121] g) []) w = s54R7 (Exit.exit 6) [x0, x1, x4, x11, x12, x13, x121] w := by kernel_rfl
theorem s54R7ret_eq (x0 x1 x4 x11 x12 x13 x121 : Value) (g : Nat → Value) (w : World) : s54K14 Exit.ret (frm 129 (setL [0, 1, 4, 11, 12, 13, 121] [x0, x1, x4, x11, x12, x13, x121] g) []) w = s54R7 Exit.ret [x0, x1, x4, x11, x12, x13, x121] w := by kernel_rfl
theorem s54R7of : ∀ (e : Exit) (xs : List Value) (w : World) (g : Nat → Value) (y : _), s54R7 e xs w = some y → s54K14 e (frm 129 (setL [0, 1, 4, 11, 12, 13, 121] xs g) []) w = some y := by
  intro e xs w g y h
  unfold s54R7 at h
  split at h
  · exact (s54R7x6eq _ _ _ _ _ _ _ g _).trans h
  · exact (s54R7ret_eq _ _ _ _ _ _ _ g _).trans h
  · cases h
set_option maxRecDepth 20000 in
theorem s54L7of {aA aB aC aD aE aF aG aH aI aJ aK aL aM aN aO aP aQ aR aS aT aU aV aW aX aY aZ bA bB bC bD bE bF bG bH bI bJ bK bL bM bN bO bP bQ bR bS bT bU bV bW bX bY bZ cA cB cC cD cE cF cG cH cI cJ cK cL cM cN cO cP cQ cR cS cT cU cV cW cX cY cZ dA dB dC dD dE dF dG dH dI dJ dK dL dM dN dO dP dQ dR dS dT dU dV dW dX dY dZ eA eB eC eD eE eF eG eH eI eJ eK eL eM eN eO eP eQ eR eS eT eU eV eW eX eY : Value} {w : World} {r : _} (h : loopR s54B7 s54R7 [aA,aB,aE,aL,aM,aN,eR] w = some r) : s54L7 [aA,aB,aC,aD,aE,aF,aG,aH,aI,aJ,aK,aL,aM,aN,aO,aP,aQ,aR,aS,aT,aU,aV,aW,aX,aY,aZ,bA,bB,bC,bD,bE,bF,bG,bH,bI,bJ,bK,bL,bM,bN,bO,bP,bQ,bR,bS,bT,bU,bV,bW,bX,bY,bZ,cA,cB,cC,cD,cE,cF,cG,cH,cI,cJ,cK,cL,cM,cN,cO,cP,cQ,cR,cS,cT,cU,cV,cW,cX,cY,cZ,dA,dB,dC,dD,dE,dF,dG,dH,dI,dJ,dK,dL,dM,dN,dO,dP,dQ,dR,dS,dT,dU,dV,dW,dX,dY,dZ,eA,eB,eC,eD,eE,eF,eG,eH,eI,eJ,eK,eL,eM,eN,eO,eP,eQ,eR,eS,eT,eU,eV,eW,eX,eY] [] w = some r :=
  loopN_of (B := s54B7) (R := s54R7) (n := 129) (live := [0, 1, 4, 11, 12, 13, 121]) (fun xs w g y hl h => match xs, hl, h with | [x0, x1, x4, x11, x12, x13, x121], _, h => (s54B7eq x0 x1 x4 x11 x12 x13 x121 w g []).trans h) (by kernel_rfl) (s54R7of) (fun i => ([aA,aB,aC,aD,aE,aF,aG,aH,aI,aJ,aK,aL,aM,aN,aO,aP,aQ,aR,aS,aT,aU,aV,aW,aX,aY,aZ,bA,bB,bC,bD,bE,bF,bG,bH,bI,bJ,bK,bL,bM,bN,bO,bP,bQ,bR,bS,bT,bU,bV,bW,bX,bY,bZ,cA,cB,cC,cD,cE,cF,cG,cH,cI,cJ,cK,cL,cM,cN,cO,cP,cQ,cR,cS,cT,cU,cV,cW,cX,cY,cZ,dA,dB,dC,dD,dE,dF,dG,dH,dI,dJ,dK,dL,dM,dN,dO,dP,dQ,dR,dS,dT,dU,dV,dW,dX,dY,dZ,eA,eB,eC,eD,eE,eF,eG,eH,eI,eJ,eK,eL,eM,eN,eO,eP,eQ,eR,eS,eT,eU,eV,eW,eX,eY] : List Value).getD i undef) (by kernel_rfl) rfl h
set_option maxRecDepth 100000 in
theorem s54J6eq (aA aB aC aD aE aF aG aH aI aJ aK aL aM aN aO aP aQ aR aS aT aU aV aW aX aY aZ bA bB bC bD bE bF bG bH bI bJ bK bL bM bN bO bP bQ bR bS bT bU bV bW bX bY bZ cA cB cC cD cE cF cG cH cI cJ cK cL cM cN cO cP cQ cR cS cT cU cV cW cX cY cZ dA dB dC dD dE dF dG dH dI dJ dK dL dM dN dO dP dQ dR dS dT dU dV dW dX dY dZ eA eB eC eD eE eF eG eH eI eJ eK eL eM eN eO eP eQ eR eS eT eU eV eW eX eY : Value) (w : World) : s54J6 [aA,aB,aC,aD,aE,aF,aG,aH,aI,aJ,aK,aL,aM,aN,aO,aP,aQ,aR,aS,aT,aU,aV,aW,aX,aY,aZ,bA,bB,bC,bD,bE,bF,bG,bH,bI,bJ,bK,bL,bM,bN,bO,bP,bQ,bR,bS,bT,bU,bV,bW,bX,bY,bZ,cA,cB,cC,cD,cE,cF,cG,cH,cI,cJ,cK,cL,cM,cN,cO,cP,cQ,cR,cS,cT,cU,cV,cW,cX,cY,cZ,dA,dB,dC,dD,dE,dF,dG,dH,dI,dJ,dK,dL,dM,dN,dO,dP,dQ,dR,dS,dT,dU,dV,dW,dX,dY,dZ,eA,eB,eC,eD,eE,eF,eG,eH,eI,eJ,eK,eL,eM,eN,eO,eP,eQ,eR,eS,eT,eU,eV,eW,eX,eY] [] w = s54M6raw aA aB aC aD aE aF aG aH aI aJ aK aL aM aN aO aP aQ aR aS aT aU aV aW aX aY aZ bA bB bC bD bE bF bG bH bI bJ bK bL bM bN bO bP bQ bR bS bT bU bV bW bX bY bZ cA cB cC cD cE cF cG cH cI cJ cK cL cM cN cO cP cQ cR cS cT cU cV cW cX cY cZ dA dB dC dD dE dF dG dH dI dJ dK dL dM dN dO dP dQ dR dS dT dU dV dW dX dY dZ eA eB eC eD eE eF eG eH eI eJ eK eL eM eN eO eP eQ eR eS eT eU eV eW eX eY w := (show s54J6 [aA,aB,aC,aD,aE,aF,aG,aH,aI,aJ,aK,aL,aM,aN,aO,aP,aQ,aR,aS,aT,aU,aV,aW,aX,aY,aZ,bA,bB,bC,bD,bE,bF,bG,bH,bI,bJ,bK,bL,bM,bN,bO,bP,bQ,bR,bS,bT,bU,bV,bW,bX,bY,bZ,cA,cB,cC,cD,cE,cF,cG,cH,cI,cJ,cK,cL,cM,cN,cO,cP,cQ,cR,cS,cT,cU,cV,cW,cX,cY,cZ,dA,dB,dC,dD,dE,dF,dG,dH,dI,dJ,dK,dL,dM,dN,dO,dP,dQ,dR,dS,dT,dU,dV,dW,dX,dY,dZ,eA,eB,eC,eD,eE,eF,eG,eH,eI,eJ,eK,eL,eM,eN,eO,eP,eQ,eR,eS,eT,eU,eV,eW,eX,eY] [] w = evK Tryd.prog 54 none (nav [1, 1, 1, 1, 1, 1, 0, 1, 0, 0, 1, 0, 0, 1, 1, 1, 1] (bodyOf Tryd.f54)) none _ ⟨[aA,aB,aC,aD,aE,aF,aG,aH,aI,aJ,aK,aL,aM,aN,aO,aP,aQ,aR,aS,aT,aU,aV,aW,aX,aY,aZ,bA,bB,bC,bD,bE,bF,bG,bH,bI,bJ,bK,bL,bM,bN,bO,bP,bQ,bR,bS,bT,bU,bV,bW,bX,bY,bZ,cA,cB,cC,cD,cE,cF,cG,cH,cI,cJ,cK,cL,cM,cN,cO,cP,cQ,cR,cS,cT,cU,cV,cW,cX,cY,cZ,dA,dB,dC,dD,dE,dF,dG,dH,dI,dJ,dK,dL,dM,dN,dO,dP,dQ,dR,dS,dT,dU,dV,dW,dX,dY,dZ,eA,eB,eC,eD,eE,eF,eG,eH,eI,eJ,eK,eL,eM,eN,eO,eP,eQ,eR,eS,eT,eU,eV,eW,eX,eY].toArray, []⟩ w s54K12 from by kernel_rfl).trans (by kernel_rfl)
set_option maxRecDepth 100000 in
theorem s54J6of {aA aB aC aD aE aF aG aH aI aJ aK aL aM aN aO aP aQ aR aS aT aU aV aW aX aY aZ bA bB bC bD bE bF bG bH bI bJ bK bL bM bN bO bP bQ bR bS bT bU bV bW bX bY bZ cA cB cC cD cE cF cG cH cI cJ cK cL cM cN cO cP cQ cR cS cT cU cV cW cX cY cZ dA dB dC dD dE dF dG dH dI dJ dK dL dM dN dO dP dQ dR dS dT dU dV dW dX dY dZ eA eB eC eD eE eF eG eH eI eJ eK eL eM eN eO eP eQ eR eS eT eU eV eW eX eY : Value} {w : World} {r : _} (h : s54M6 aA aB aE aL aM aN w = some r) : s54J6 [aA,aB,aC,aD,aE,aF,aG,aH,aI,aJ,aK,aL,aM,aN,aO,aP,aQ,aR,aS,aT,aU,aV,aW,aX,aY,aZ,bA,bB,bC,bD,bE,bF,bG,bH,bI,bJ,bK,bL,bM,bN,bO,bP,bQ,bR,bS,bT,bU,bV,bW,bX,bY,bZ,cA,cB,cC,cD,cE,cF,cG,cH,cI,cJ,cK,cL,cM,cN,cO,cP,cQ,cR,cS,cT,cU,cV,cW,cX,cY,cZ,dA,dB,dC,dD,dE,dF,dG,dH,dI,dJ,dK,dL,dM,dN,dO,dP,dQ,dR,dS,dT,dU,dV,dW,dX,dY,dZ,eA,eB,eC,eD,eE,eF,eG,eH,eI,eJ,eK,eL,eM,eN,eO,eP,eQ,eR,eS,eT,eU,eV,eW,eX,eY] [] w = some r :=
  ((s54J6eq aA aB aC aD aE aF aG aH aI aJ aK aL aM aN aO aP aQ aR aS aT aU aV aW aX aY aZ bA bB bC bD bE bF bG bH bI bJ bK bL bM bN bO bP bQ bR bS bT bU bV bW bX bY bZ cA cB cC cD cE cF cG cH cI cJ cK cL cM cN cO cP cQ cR cS cT cU cV cW cX cY cZ dA dB dC dD dE dF dG dH dI dJ dK dL dM dN dO dP dQ dR dS dT dU dV dW dX dY dZ eA eB eC eD eE eF eG eH eI eJ eK eL eM eN eO eP eQ eR eS eT eU eV eW eX eY w).trans ((Ev.bind_mono fun (r109 : Value × World) => (s54L8of)) h))
set_option maxRecDepth 100000 in
theorem s54J5eq (aA aB aC aD aE aF aG aH aI aJ aK aL aM aN aO aP aQ aR aS aT aU aV aW aX aY aZ bA bB bC bD bE bF bG bH bI bJ bK bL bM bN bO bP bQ bR bS bT bU bV bW bX bY bZ cA cB cC cD cE cF cG cH cI cJ cK cL cM cN cO cP cQ cR cS cT cU cV cW cX cY cZ dA dB dC dD dE dF dG dH dI dJ dK dL dM dN dO dP dQ dR dS dT dU dV dW dX dY dZ eA eB eC eD eE eF eG eH eI eJ eK eL eM eN eO eP eQ eR eS eT eU eV eW eX eY : Value) (w : World) : s54J5 [aA,aB,aC,aD,aE,aF,aG,aH,aI,aJ,aK,aL,aM,aN,aO,aP,aQ,aR,aS,aT,aU,aV,aW,aX,aY,aZ,bA,bB,bC,bD,bE,bF,bG,bH,bI,bJ,bK,bL,bM,bN,bO,bP,bQ,bR,bS,bT,bU,bV,bW,bX,bY,bZ,cA,cB,cC,cD,cE,cF,cG,cH,cI,cJ,cK,cL,cM,cN,cO,cP,cQ,cR,cS,cT,cU,cV,cW,cX,cY,cZ,dA,dB,dC,dD,dE,dF,dG,dH,dI,dJ,dK,dL,dM,dN,dO,dP,dQ,dR,dS,dT,dU,dV,dW,dX,dY,dZ,eA,eB,eC,eD,eE,eF,eG,eH,eI,eJ,eK,eL,eM,eN,eO,eP,eQ,eR,eS,eT,eU,eV,eW,eX,eY] [] w = s54M5raw aA aB aC aD aE aF aG aH aI aJ aK aL aM aN aO aP aQ aR aS aT aU aV aW aX aY aZ bA bB bC bD bE bF bG bH bI bJ bK bL bM bN bO bP bQ bR bS bT bU bV bW bX bY bZ cA cB cC cD cE cF cG cH cI cJ cK cL cM cN cO cP cQ cR cS cT cU cV cW cX cY cZ dA dB dC dD dE dF dG dH dI dJ dK dL dM dN dO dP dQ dR dS dT dU dV dW dX dY dZ eA eB eC eD eE eF eG eH eI eJ eK eL eM eN eO eP eQ eR eS eT eU eV eW eX eY w := (show s54J5 [aA,aB,aC,aD,aE,aF,aG,aH,aI,aJ,aK,aL,aM,aN,aO,aP,aQ,aR,aS,aT,aU,aV,aW,aX,aY,aZ,bA,bB,bC,bD,bE,bF,bG,bH,bI,bJ,bK,bL,bM,bN,bO,bP,bQ,bR,bS,bT,bU,bV,bW,bX,bY,bZ,cA,cB,cC,cD,cE,cF,cG,cH,cI,cJ,cK,cL,cM,cN,cO,cP,cQ,cR,cS,cT,cU,cV,cW,cX,cY,cZ,dA,dB,dC,dD,dE,dF,dG,dH,dI,dJ,dK,dL,dM,dN,dO,dP,dQ,dR,dS,dT,dU,dV,dW,dX,dY,dZ,eA,eB,eC,eD,eE,eF,eG,eH,eI,eJ,eK,eL,eM,eN,eO,eP,eQ,eR,eS,eT,eU,eV,eW,eX,eY] [] w = evK Tryd.prog 54 none (nav [1, 1, 1, 1, 1, 1, 0, 1, 0, 0, 1, 0, 0, 1, 1, 1, 1] (bodyOf Tryd.f54)) none _ ⟨[aA,aB,aC,aD,aE,aF,aG,aH,aI,aJ,aK,aL,aM,aN,aO,aP,aQ,aR,aS,aT,aU,aV,aW,aX,aY,aZ,bA,bB,bC,bD,bE,bF,bG,bH,bI,bJ,bK,bL,bM,bN,bO,bP,bQ,bR,bS,bT,bU,bV,bW,bX,bY,bZ,cA,cB,cC,cD,cE,cF,cG,cH,cI,cJ,cK,cL,cM,cN,cO,cP,cQ,cR,cS,cT,cU,cV,cW,cX,cY,cZ,dA,dB,dC,dD,dE,dF,dG,dH,dI,dJ,dK,dL,dM,dN,dO,dP,dQ,dR,dS,dT,dU,dV,dW,dX,dY,dZ,eA,eB,eC,eD,eE,eF,eG,eH,eI,eJ,eK,eL,eM,eN,eO,eP,eQ,eR,eS,eT,eU,eV,eW,eX,eY].toArray, []⟩ w s54K12 from by kernel_rfl).trans (by kernel_rfl)
set_option maxRecDepth 100000 in
theorem s54J5of {aA aB aC aD aE aF aG aH aI aJ aK aL aM aN aO aP aQ aR aS aT aU aV aW aX aY aZ bA bB bC bD bE bF bG bH bI bJ bK bL bM bN bO bP bQ bR bS bT bU bV bW bX bY bZ cA cB cC cD cE cF cG cH cI cJ cK cL cM cN cO cP cQ cR cS cT cU cV cW cX cY cZ dA dB dC dD dE dF dG dH dI dJ dK dL dM dN dO dP dQ dR dS dT dU dV dW dX dY dZ eA eB eC eD eE eF eG eH eI eJ eK eL eM eN eO eP eQ eR eS eT eU eV eW eX eY : Value} {w : World} {r : _} (h : s54M5 aA aB aE aL aM aN w = some r) : s54J5 [aA,aB,aC,aD,aE,aF,aG,aH,aI,aJ,aK,aL,aM,aN,aO,aP,aQ,aR,aS,aT,aU,aV,aW,aX,aY,aZ,bA,bB,bC,bD,bE,bF,bG,bH,bI,bJ,bK,bL,bM,bN,bO,bP,bQ,bR,bS,bT,bU,bV,bW,bX,bY,bZ,cA,cB,cC,cD,cE,cF,cG,cH,cI,cJ,cK,cL,cM,cN,cO,cP,cQ,cR,cS,cT,cU,cV,cW,cX,cY,cZ,dA,dB,dC,dD,dE,dF,dG,dH,dI,dJ,dK,dL,dM,dN,dO,dP,dQ,dR,dS,dT,dU,dV,dW,dX,dY,dZ,eA,eB,eC,eD,eE,eF,eG,eH,eI,eJ,eK,eL,eM,eN,eO,eP,eQ,eR,eS,eT,eU,eV,eW,eX,eY] [] w = some r :=
  ((s54J5eq aA aB aC aD aE aF aG aH aI aJ aK aL aM aN aO aP aQ aR aS aT aU aV aW aX aY aZ bA bB bC bD bE bF bG bH bI bJ bK bL bM bN bO bP bQ bR bS bT bU bV bW bX bY bZ cA cB cC cD cE cF cG cH cI cJ cK cL cM cN cO cP cQ cR cS cT cU cV cW cX cY cZ dA dB dC dD dE dF dG dH dI dJ dK dL dM dN dO dP dQ dR dS dT dU dV dW dX dY dZ eA eB eC eD eE eF eG eH eI eJ eK eL eM eN eO eP eQ eR eS eT eU eV eW eX eY w).trans ((Ev.bind_mono fun (r108 : Value × World) => (s54L7of)) h))
theorem s54B4eq (x0 x1 x4 x12 : Value) (w : World) (g : Nat → Value) (d : List Deferred) : evK Tryd.prog 54 none (nav [1, 1, 1, 1, 1, 1, 0, 1, 0, 0] (bodyOf Tryd.f54)) none _ (frm 129 (setL [0, 1, 4, 12] [x0, x1, x4, x12] g) d) w (projK [0, 1, 4, 12]) = s54B4raw g d [x0, x1, x4, x12] w := by kernel_rfl
theorem s54R4x4eq (x0 x1 x4 x12 : Value) (g : Nat → Value) (w : World) : s54K10 (Exit.exit 4) (frm 129 (setL [0, 1, 4, 12] [x0, x1, x4, x12] g) []) w = s54R4 (Exit.exit 4) [x0, x1, x4, x12] w := by kernel_rfl
theorem s54R4ret_eq (x0 x1 x4 x12 : Value) (g : Nat → Value) (w : World) : s54K10 Exit.ret (frm 129 (setL [0, 1, 4, 12] [x0, x1, x4, x12] g) []) w = s54R4 Exit.ret [x0, x1, x4, x12] w := by kernel_rfl
theorem s54R4of : ∀ (e : Exit) (xs : List Value) (w : World) (g : Nat → Value) (y : _), s54R4 e xs w = some y → s54K10 e (frm 129 (setL [0, 1, 4, 12] xs g) []) w = some y := by
  intro e xs w g y h
  unfold s54R4 at h
  split at h
  · exact (s54R4x4eq _ _ _ _ g _).trans h
  · exact (s54R4ret_eq _ _ _ _ g _).trans h
  · cases h
set_option maxRecDepth 20000 in
theorem s54L4of {aA aB aC aD aE aF aG aH aI aJ aK aL aM aN aO aP aQ aR aS aT aU aV aW aX aY aZ bA bB bC bD bE bF bG bH bI bJ bK bL bM bN bO bP bQ bR bS bT bU bV bW bX bY bZ cA cB cC cD cE cF cG cH cI cJ cK cL cM cN cO cP cQ cR cS cT cU cV cW cX cY cZ dA dB dC dD dE dF dG dH dI dJ dK dL dM dN dO dP dQ dR dS dT dU dV dW dX dY dZ eA eB eC eD eE eF eG eH eI eJ eK eL eM eN eO eP eQ eR eS eT eU eV eW eX eY : Value} {w : World} {r : _} (h : loopR s54B4 s54R4 [aA,aB,aE,aM] w = some r) : s54L4 [aA,aB,aC,aD,aE,aF,aG,aH,aI,aJ,aK,aL,aM,aN,aO,aP,aQ,aR,aS,aT,aU,aV,aW,aX,aY,aZ,bA,bB,bC,bD,bE,bF,bG,bH,bI,bJ,bK,bL,bM,bN,bO,bP,bQ,bR,bS,bT,bU,bV,bW,bX,bY,bZ,cA,cB,cC,cD,cE,cF,cG,cH,cI,cJ,cK,cL,cM,cN,cO,cP,cQ,cR,cS,cT,cU,cV,cW,cX,cY,cZ,dA,dB,dC,dD,dE,dF,dG,dH,dI,dJ,dK,dL,dM,dN,dO,dP,dQ,dR,dS,dT,dU,dV,dW,dX,dY,dZ,eA,eB,eC,eD,eE,eF,eG,eH,eI,eJ,eK,eL,eM,eN,eO,eP,eQ,eR,eS,eT,eU,eV,eW,eX,eY] [] w = some r :=
  loopN_of (B := s54B4) (R := s54R4) (n := 129) (live := [0, 1, 4, 12]) (fun xs w g y hl h => match xs, hl, h with | [x0, x1, x4, x12], _, h => (s54B4eq x0 x1 x4 x12 w g []).trans (show s54B4raw g [] [x0, x1, x4, x12] w = some y from (Ev.bind_mono fun (v81 : Value) => (Ev.bind_mono fun (v82 : Value) => (condK_mono (Ev.bind_mono fun (v83 : Value) => (Ev.bind_mono fun (v84 : Value) => (Ev.bind_mono fun (v85 : Value) => (Ev.bind_mono fun (v86 : Value) => (condK_mono id (Ev.bind_mono fun (v92 : Value) => (Ev.bind_mono fun (r93 : Value × World) => (Ev.bind_mono fun (v94 : Value) => (Ev.bind_mono fun (v95 : Value) => (Ev.bind_mono fun (v96 : Value) => (condK_mono (Ev.bind_mono fun (v97 : Value) => (Ev.bind_mono fun (v98 : Value) => (condK_mono id (Ev.bind_mono fun (v102 : Value) => (Ev.bind_mono fun (v103 : Value) => (condK_mono id (s54J6of))))))) (s54J6of)))))))))))) id))) h)) (by kernel_rfl) (s54R4of) (fun i => ([aA,aB,aC,aD,aE,aF,aG,aH,aI,aJ,aK,aL,aM,aN,aO,aP,aQ,aR,aS,aT,aU,aV,aW,aX,aY,aZ,bA,bB,bC,bD,bE,bF,bG,bH,bI,bJ,bK,bL,bM,bN,bO,bP,bQ,bR,bS,bT,bU,bV,bW,bX,bY,bZ,cA,cB,cC,cD,cE,cF,cG,cH,cI,cJ,cK,cL,cM,cN,cO,cP,cQ,cR,cS,cT,cU,cV,cW,cX,cY,cZ,dA,dB,dC,dD,dE,dF,dG,dH,dI,dJ,dK,dL,dM,dN,dO,dP,dQ,dR,dS,dT,dU,dV,dW,dX,dY,dZ,eA,eB,eC,eD,eE,eF,eG,eH,eI,eJ,eK,eL,eM,eN,eO,eP,eQ,eR,eS,eT,eU,eV,eW,eX,eY] : List Value).getD i undef) (by kernel_rfl) rfl h
theorem s54B3eq (x0 x1 x4 x12 : Value) (w : World) (g : Nat → Value) (d : List Deferred) : evK Tryd.prog 54 none (nav [1, 1, 1, 1, 1, 1, 0, 1, 0, 0] (bodyOf Tryd.f54)) none _ (frm 129 (setL [0, 1, 4, 12] [x0, x1, x4, x12] g) d) w (projK [0, 1, 4, 12]) = s54B3raw g d [x0, x1, x4, x12] w := by kernel_rfl
theorem s54R3x4eq (x0 x1 x4 x12 : Value) (g : Nat → Value) (w : World) : s54K10 (Exit.exit 4) (frm 129 (setL [0, 1, 4, 12] [x0, x1, x4, x12] g) []) w = s54R3 (Exit.exit 4) [x0, x1, x4, x12] w := by kernel_rfl
theorem s54R3ret_eq (x0 x1 x4 x12 : Value) (g : Nat → Value) (w : World) : s54K10 Exit.ret (frm 129 (setL [0, 1, 4, 12] [x0, x1, x4, x12] g) []) w = s54R3 Exit.ret [x0, x1, x4, x12] w := by kernel_rfl
theorem s54R3of : ∀ (e : Exit) (xs : List Value) (w : World) (g : Nat → Value) (y : _), s54R3 e xs w = some y → s54K10 e (frm 129 (setL [0, 1, 4, 12] xs g) []) w = some y := by
  intro e xs w g y h
  unfold s54R3 at h
  split at h
  · exact (s54R3x4eq _ _ _ _ g _).trans h
  · exact (s54R3ret_eq _ _ _ _ g _).trans h
  · cases h
set_option maxRecDepth 20000 in
theorem s54L3of {aA aB aC aD aE aF aG aH aI aJ aK aL aM aN aO aP aQ aR aS aT aU aV aW aX aY aZ bA bB bC bD bE bF bG bH bI bJ bK bL bM bN bO bP bQ bR bS bT bU bV bW bX bY bZ cA cB cC cD cE cF cG cH cI cJ cK cL cM cN cO cP cQ cR cS cT cU cV cW cX cY cZ dA dB dC dD dE dF dG dH dI dJ dK dL dM dN dO dP dQ dR dS dT dU dV dW dX dY dZ eA eB eC eD eE eF eG eH eI eJ eK eL eM eN eO eP eQ eR eS eT eU eV eW eX eY : Value} {w : World} {r : _} (h : loopR s54B3 s54R3 [aA,aB,aE,aM] w = some r) : s54L3 [aA,aB,aC,aD,aE,aF,aG,aH,aI,aJ,aK,aL,aM,aN,aO,aP,aQ,aR,aS,aT,aU,aV,aW,aX,aY,aZ,bA,bB,bC,bD,bE,bF,bG,bH,bI,bJ,bK,bL,bM,bN,bO,bP,bQ,bR,bS,bT,bU,bV,bW,bX,bY,bZ,cA,cB,cC,cD,cE,cF,cG,cH,cI,cJ,cK,cL,cM,cN,cO,cP,cQ,cR,cS,cT,cU,cV,cW,cX,cY,cZ,dA,dB,dC,dD,dE,dF,dG,dH,dI,dJ,dK,dL,dM,dN,dO,dP,dQ,dR,dS,dT,dU,dV,dW,dX,dY,dZ,eA,eB,eC,eD,eE,eF,eG,eH,eI,eJ,eK,eL,eM,eN,eO,eP,eQ,eR,eS,eT,eU,eV,eW,eX,eY] [] w = some r :=
  loopN_of (B := s54B3) (R := s54R3) (n := 129) (live := [0, 1, 4, 12]) (fun xs w g y hl h => match xs, hl, h with | [x0, x1, x4, x12], _, h => (s54B3eq x0 x1 x4 x12 w g []).trans (show s54B3raw g [] [x0, x1, x4, x12] w = some y from (Ev.bind_mono fun (v54 : Value) => (Ev.bind_mono fun (v55 : Value) => (condK_mono (Ev.bind_mono fun (v56 : Value) => (Ev.bind_mono fun (v57 : Value) => (Ev.bind_mono fun (v58 : Value) => (Ev.bind_mono fun (v59 : Value) => (condK_mono id (Ev.bind_mono fun (v65 : Value) => (Ev.bind_mono fun (r66 : Value × World) => (Ev.bind_mono fun (v67 : Value) => (Ev.bind_mono fun (v68 : Value) => (Ev.bind_mono fun (v69 : Value) => (condK_mono (Ev.bind_mono fun (v70 : Value) => (Ev.bind_mono fun (v71 : Value) => (condK_mono id (Ev.bind_mono fun (v75 : Value) => (Ev.bind_mono fun (v76 : Value) => (condK_mono id (s54J5of))))))) (s54J5of)))))))))))) id))) h)) (by kernel_rfl) (s54R3of) (fun i => ([aA,aB,aC,aD,aE,aF,aG,aH,aI,aJ,aK,aL,aM,aN,aO,aP,aQ,aR,aS,aT,aU,aV,aW,aX,aY,aZ,bA,bB,bC,bD,bE,bF,bG,bH,bI,bJ,bK,bL,bM,bN,bO,bP,bQ,bR,bS,bT,bU,bV,bW,bX,bY,bZ,cA,cB,cC,cD,cE,cF,cG,cH,cI,cJ,cK,cL,cM,cN,cO,cP,cQ,cR,cS,cT,cU,cV,cW,cX,cY,cZ,dA,dB,dC,dD,dE,dF,dG,dH,dI,dJ,dK,dL,dM,dN,dO,dP,dQ,dR,dS,dT,dU,dV,dW,dX,dY,dZ,eA,eB,eC,eD,eE,eF,eG,eH,eI,eJ,eK,eL,eM,eN,eO,eP,eQ,eR,eS,eT,eU,eV,eW,eX,eY] : List Value).getD i undef) (by kernel_rfl) rfl h
theorem s54B2eq (x4 x7 x60 x61 x62 : Value) (w : World) (g : Nat → Value) (d : List Deferred) : evK Tryd.prog 54 none (nav [1, 1, 1, 1, 0, 1, 0, 1, 1, 0, 0, 1, 0, 0] (bodyOf Tryd.f54)) none _ (frm 129 (setL [4, 7, 60, 61, 62] [x4, x7, x60, x61, x62] g) d) w (projK [4, 7, 60, 61, 62]) = s54B2 [x4, x7, x60, x61, x62] w := by kernel_rfl
theorem s54R2x2eq (x4 x7 x60 x61 x62 : Value) (g : Nat → Value) (w : World) : s54K8 (Exit.exit 2) (frm 129 (setL [4, 7, 60, 61, 62] [x4, x7, x60, x61, x62] g) []) w = s54R2 (Exit.exit 2) [x4, x7, x60, x61, x62] w := by kernel_rfl
theorem s54R2ret_eq (x4 x7 x60 x61 x62 : Value) (g : Nat → Value) (w : World) : s54K8 Exit.ret (frm 129 (setL [4, 7, 60, 61, 62] [x4, x7, x60, x61, x62] g) []) w = s54R2 Exit.ret [x4, x7, x60, x61, x62] w := by kernel_rfl
theorem s54R2of : ∀ (e : Exit) (xs : List Value) (w : World) (g : Nat → Value) (y : _), s54R2 e xs w = some y → s54K8 e (frm 129 (setL [4, 7, 60, 61, 62] xs g) []) w = some y := by
  intro e xs w g y h
  unfold s54R2 at h
  split at h
  · exact (s54R2x2eq _ _ _ _ _ g _).trans h
  · exact (s54R2ret_eq _ _ _ _ _ g _).trans h
  · cases h
set_option maxRecDepth 20000 in
theorem s54L2of {aA aB aC aD aE aF aG aH aI aJ aK aL aM aN aO aP aQ aR aS aT aU aV aW aX aY aZ bA bB bC bD bE bF bG bH bI bJ bK bL bM bN bO bP bQ bR bS bT bU bV bW bX bY bZ cA cB cC cD cE cF cG cH cI cJ cK cL cM cN cO cP cQ cR cS cT cU cV cW cX cY cZ dA dB dC dD dE dF dG dH dI dJ dK dL dM dN dO dP dQ dR dS dT dU dV dW dX dY dZ eA eB eC eD eE eF eG eH eI eJ eK eL eM eN eO eP eQ eR eS eT eU eV eW eX eY : Value} {w : World} {r : _} (h : loopR s54B2 s54R2 [aE,aH,cI,cJ,cK] w = some r) : s54L2 [aA,aB,aC,aD,aE,aF,aG,aH,aI,aJ,aK,aL,aM,aN,aO,aP,aQ,aR,aS,aT,aU,aV,aW,aX,aY,aZ,bA,bB,bC,bD,bE,bF,bG,bH,bI,bJ,bK,bL,bM,bN,bO,bP,bQ,bR,bS,bT,bU,bV,bW,bX,bY,bZ,cA,cB,cC,cD,cE,cF,cG,cH,cI,cJ,cK,cL,cM,cN,cO,cP,cQ,cR,cS,cT,cU,cV,cW,cX,cY,cZ,dA,dB,dC,dD,dE,dF,dG,dH,dI,dJ,dK,dL,dM,dN,dO,dP,dQ,dR,dS,dT,dU,dV,dW,dX,dY,dZ,eA,eB,eC,eD,eE,eF,eG,eH,eI,eJ,eK,eL,eM,eN,eO,eP,eQ,eR,eS,eT,eU,eV,eW,eX,eY] [] w = some r :=
  loopN_of (B := s54B2) (R := s54R2) (n := 129) (live := [4, 7, 60, 61, 62]) (fun xs w g y hl h => match xs, hl, h with | [x4, x7, x60, x61, x62], _, h => (s54B2eq x4 x7 x60 x61 x62 w g []).trans h) (by kernel_rfl) (s54R2of) (fun i => ([aA,aB,aC,aD,aE,aF,aG,aH,aI,aJ,aK,aL,aM,aN,aO,aP,aQ,aR,aS,aT,aU,aV,aW,aX,aY,aZ,bA,bB,bC,bD,bE,bF,bG,bH,bI,bJ,bK,bL,bM,bN,bO,bP,bQ,bR,bS,bT,bU,bV,bW,bX,bY,bZ,cA,cB,cC,cD,cE,cF,cG,cH,cI,cJ,cK,cL,cM,cN,cO,cP,cQ,cR,cS,cT,cU,cV,cW,cX,cY,cZ,dA,dB,dC,dD,dE,dF,dG,dH,dI,dJ,dK,dL,dM,dN,dO,dP,dQ,dR,dS,dT,dU,dV,dW,dX,dY,dZ,eA,eB,eC,eD,eE,eF,eG,eH,eI,eJ,eK,eL,eM,eN,eO,eP,eQ,eR,eS,eT,eU,eV,eW,eX,eY] : List Value).getD i undef) (by kernel_rfl) rfl h
set_option maxRecDepth 100000 in
theorem s54J1eq (aA aB aC aD aE aF aG aH aI aJ aK aL aM aN aO aP aQ aR aS aT aU aV aW aX aY aZ bA bB bC bD bE bF bG bH bI bJ bK bL bM bN bO bP bQ bR bS bT bU bV bW bX bY bZ cA cB cC cD cE cF cG cH cI cJ cK cL cM cN cO cP cQ cR cS cT cU cV cW cX cY cZ dA dB dC dD dE dF dG dH dI dJ dK dL dM dN dO dP dQ dR dS dT dU dV dW dX dY dZ eA eB eC eD eE eF eG eH eI eJ eK eL eM eN eO eP eQ eR eS eT eU eV eW eX eY : Value) (w : World) : s54J1 [aA,aB,aC,aD,aE,aF,aG,aH,aI,aJ,aK,aL,aM,aN,aO,aP,aQ,aR,aS,aT,aU,aV,aW,aX,aY,aZ,bA,bB,bC,bD,bE,bF,bG,bH,bI,bJ,bK,bL,bM,bN,bO,bP,bQ,bR,bS,bT,bU,bV,bW,bX,bY,bZ,cA,cB,cC,cD,cE,cF,cG,cH,cI,cJ,cK,cL,cM,cN,cO,cP,cQ,cR,cS,cT,cU,cV,cW,cX,cY,cZ,dA,dB,dC,dD,dE,dF,dG,dH,dI,dJ,dK,dL,dM,dN,dO,dP,dQ,dR,dS,dT,dU,dV,dW,dX,dY,dZ,eA,eB,eC,eD,eE,eF,eG,eH,eI,eJ,eK,eL,eM,eN,eO,eP,eQ,eR,eS,eT,eU,eV,eW,eX,eY] [] w = s54M1 aA aG w := (show s54J1 [aA,aB,aC,aD,aE,aF,aG,aH,aI,aJ,aK,aL,aM,aN,aO,aP,aQ,aR,aS,aT,aU,aV,aW,aX,aY,aZ,bA,bB,bC,bD,bE,bF,bG,bH,bI,bJ,bK,bL,bM,bN,bO,bP,bQ,bR,bS,bT,bU,bV,bW,bX,bY,bZ,cA,cB,cC,cD,cE,cF,cG,cH,cI,cJ,cK,cL,cM,cN,cO,cP,cQ,cR,cS,cT,cU,cV,cW,cX,cY,cZ,dA,dB,dC,dD,dE,dF,dG,dH,dI,dJ,dK,dL,dM,dN,dO,dP,dQ,dR,dS,dT,dU,dV,dW,dX,dY,dZ,eA,eB,eC,eD,eE,eF,eG,eH,eI,eJ,eK,eL,eM,eN,eO,eP,eQ,eR,eS,eT,eU,eV,eW,eX,eY] [] w = evK Tryd.prog 54 none (nav [1, 1, 1, 0, 1, 0, 1, 1] (bodyOf Tryd.f54)) none _ ⟨[aA,aB,aC,aD,aE,aF,aG,aH,aI,aJ,aK,aL,aM,aN,aO,aP,aQ,aR,aS,aT,aU,aV,aW,aX,aY,aZ,bA,bB,bC,bD,bE,bF,bG,bH,bI,bJ,bK,bL,bM,bN,bO,bP,bQ,bR,bS,bT,bU,bV,bW,bX,bY,bZ,cA,cB,cC,cD,cE,cF,cG,cH,cI,cJ,cK,cL,cM,cN,cO,cP,cQ,cR,cS,cT,cU,cV,cW,cX,cY,cZ,dA,dB,dC,dD,dE,dF,dG,dH,dI,dJ,dK,dL,dM,dN,dO,dP,dQ,dR,dS,dT,dU,dV,dW,dX,dY,dZ,eA,eB,eC,eD,eE,eF,eG,eH,eI,eJ,eK,eL,eM,eN,eO,eP,eQ,eR,eS,eT,eU,eV,eW,eX,eY].toArray, []⟩ w s54K4 from by kernel_rfl).trans (by kernel_rfl)
set_option maxRecDepth 100000 in
theorem s54J1of {aA aB aC aD aE aF aG aH aI aJ aK aL aM aN aO aP aQ aR aS aT aU aV aW aX aY aZ bA bB bC bD bE bF bG bH bI bJ bK bL bM bN bO bP bQ bR bS bT bU bV bW bX bY bZ cA cB cC cD cE cF cG cH cI cJ cK cL cM cN cO cP cQ cR cS cT cU cV cW cX cY cZ dA dB dC dD dE dF dG dH dI dJ dK dL dM dN dO dP dQ dR dS dT dU dV dW dX dY dZ eA eB eC eD eE eF eG eH eI eJ eK eL eM eN eO eP eQ eR eS eT eU eV eW eX eY : Value} {w : World} {r : _} (h : s54M1 aA aG w = some r) : s54J1 [aA,aB,aC,aD,aE,aF,aG,aH,aI,aJ,aK,aL,aM,aN,aO,aP,aQ,aR,aS,aT,aU,aV,aW,aX,aY,aZ,bA,bB,bC,bD,bE,bF,bG,bH,bI,bJ,bK,bL,bM,bN,bO,bP,bQ,bR,bS,bT,bU,bV,bW,bX,bY,bZ,cA,cB,cC,cD,cE,cF,cG,cH,cI,cJ,cK,cL,cM,cN,cO,cP,cQ,cR,cS,cT,cU,cV,cW,cX,cY,cZ,dA,dB,dC,dD,dE,dF,dG,dH,dI,dJ,dK,dL,dM,dN,dO,dP,dQ,dR,dS,dT,dU,dV,dW,dX,dY,dZ,eA,eB,eC,eD,eE,eF,eG,eH,eI,eJ,eK,eL,eM,eN,eO,eP,eQ,eR,eS,eT,eU,eV,eW,eX,eY] [] w = some r :=
  ((s54J1eq aA aB aC aD aE aF aG aH aI aJ aK aL aM aN aO aP aQ aR aS aT aU aV aW aX aY aZ bA bB bC bD bE bF bG bH bI bJ bK bL bM bN bO bP bQ bR bS bT bU bV bW bX bY bZ cA cB cC cD cE cF cG cH cI cJ cK cL cM cN cO cP cQ cR cS cT cU cV cW cX cY cZ dA dB dC dD dE dF dG dH dI dJ dK dL dM dN dO dP dQ dR dS dT dU dV dW dX dY dZ eA eB eC eD eE eF eG eH eI eJ eK eL eM eN eO eP eQ eR eS eT eU eV eW eX eY w).trans h)
theorem s54B0eq (x4 x28 : Value) (w : World) (g : Nat → Value) (d : List Deferred) : evK Tryd.prog 54 none (nav [1, 1, 0, 1, 0, 1, 0, 1, 0, 0, 1, 0, 0] (bodyOf Tryd.f54)) none _ (frm 129 (setL [4, 28] [x4, x28] g) d) w (projK [4, 28]) = s54B0 [x4, x28] w := by kernel_rfl
theorem s54R0x0eq (x4 x28 : Value) (g : Nat → Value) (w : World) : s54K3 (Exit.exit 0) (frm 129 (setL [4, 28] [x4, x28] g) []) w = s54R0 (Exit.exit 0) [x4, x28] w := by kernel_rfl
theorem s54R0ret_eq (x4 x28 : Value) (g : Nat → Value) (w : World) : s54K3 Exit.ret (frm 129 (setL [4, 28] [x4, x28] g) []) w = s54R0 Exit.ret [x4, x28] w := by kernel_rfl
theorem s54R0of : ∀ (e : Exit) (xs : List Value) (w : World) (g : Nat → Value) (y : _), s54R0 e xs w = some y → s54K3 e (frm 129 (setL [4, 28] xs g) []) w = some y := by
  intro e xs w g y h
  unfold s54R0 at h
  split at h
  · exact (s54R0x0eq _ _ g _).trans h
  · exact (s54R0ret_eq _ _ g _).trans h
  · cases h
set_option maxRecDepth 20000 in
theorem s54L0of {aA aB aC aD aE aF aG aH aI aJ aK aL aM aN aO aP aQ aR aS aT aU aV aW aX aY aZ bA bB bC bD bE bF bG bH bI bJ bK bL bM bN bO bP bQ bR bS bT bU bV bW bX bY bZ cA cB cC cD cE cF cG cH cI cJ cK cL cM cN cO cP cQ cR cS cT cU cV cW cX cY cZ dA dB dC dD dE dF dG dH dI dJ dK dL dM dN dO dP dQ dR dS dT dU dV dW dX dY dZ eA eB eC eD eE eF eG eH eI eJ eK eL eM eN eO eP eQ eR eS eT eU eV eW eX eY : Value} {w : World} {r : _} (h : loopR s54B0 s54R0 [aE,bC] w = some r) : s54L0 [aA,aB,aC,aD,aE,aF,aG,aH,aI,aJ,aK,aL,aM,aN,aO,aP,aQ,aR,aS,aT,aU,aV,aW,aX,aY,aZ,bA,bB,bC,bD,bE,bF,bG,bH,bI,bJ,bK,bL,bM,bN,bO,bP,bQ,bR,bS,bT,bU,bV,bW,bX,bY,bZ,cA,cB,cC,cD,cE,cF,cG,cH,cI,cJ,cK,cL,cM,cN,cO,cP,cQ,cR,cS,cT,cU,cV,cW,cX,cY,cZ,dA,dB,dC,dD,dE,dF,dG,dH,dI,dJ,dK,dL,dM,dN,dO,dP,dQ,dR,dS,dT,dU,dV,dW,dX,dY,dZ,eA,eB,eC,eD,eE,eF,eG,eH,eI,eJ,eK,eL,eM,eN,eO,eP,eQ,eR,eS,eT,eU,eV,eW,eX,eY] [] w = some r :=
  loopN_of (B := s54B0) (R := s54R0) (n := 129) (live := [4, 28]) (fun xs w g y hl h => match xs, hl, h with | [x4, x28], _, h => (s54B0eq x4 x28 w g []).trans h) (by kernel_rfl) (s54R0of) (fun i => ([aA,aB,aC,aD,aE,aF,aG,aH,aI,aJ,aK,aL,aM,aN,aO,aP,aQ,aR,aS,aT,aU,aV,aW,aX,aY,aZ,bA,bB,bC,bD,bE,bF,bG,bH,bI,bJ,bK,bL,bM,bN,bO,bP,bQ,bR,bS,bT,bU,bV,bW,bX,bY,bZ,cA,cB,cC,cD,cE,cF,cG,cH,cI,cJ,cK,cL,cM,cN,cO,cP,cQ,cR,cS,cT,cU,cV,cW,cX,cY,cZ,dA,dB,dC,dD,dE,dF,dG,dH,dI,dJ,dK,dL,dM,dN,dO,dP,dQ,dR,dS,dT,dU,dV,dW,dX,dY,dZ,eA,eB,eC,eD,eE,eF,eG,eH,eI,eJ,eK,eL,eM,eN,eO,eP,eQ,eR,eS,eT,eU,eV,eW,eX,eY] : List Value).getD i undef) (by kernel_rfl) rfl h
theorem s54eq (x0 x1 : Value) (w : World) : evK Tryd.prog 54 none (bodyOf Tryd.f54) none _ { tmps := (([x0, x1] : List Value) ++ List.replicate (129 - 2) undef).toArray, defers := [] } w (leaveK Tryd.prog Tryd.f54) = s54raw x0 x1 w := by kernel_rfl
set_option maxRecDepth 100000 in
theorem c54 {x0 x1 : Value} {w : World} {r : Value × World} (h : s54 x0 x1 w = some r) : C Tryd.prog 54 #[x0, x1] w = some r :=
  C_ev follows_all drawLaw (by kernel_rfl) Tryd.func54 (by rfl) ((s54eq x0 x1 w).trans (show s54raw x0 x1 w = some r from (Ev.bind_mono fun (v19 : Value) => (condK_mono id (Ev.bind_mono fun (v20 : Value) => (Ev.bind_mono fun (v21 : Value) => (condK_mono (Ev.bind_mono fun (v22 : Value) => (Ev.bind_mono fun (v23 : Value) => (Ev.bind_mono fun (v24 : Value) => (Ev.bind_mono fun (v25 : Value) => (condK_mono (Ev.bind_mono fun (r26 : Value × World) => (s54L0of)) id))))) (Ev.bind_mono fun (v31 : Value) => (Ev.bind_mono fun (v32 : Value) => (condK_mono (Ev.bind_mono fun (v33 : Value) => (Ev.bind_mono fun (v34 : Value) => (Ev.bind_mono fun (v35 : Value) => (condK_mono (s54J1of) (s54J1of))))) (Ev.bind_mono fun (v36 : Value) => (Ev.bind_mono fun (r37 : Value × World) => (condK_mono (Ev.bind_mono fun (r38 : Value × World) => (Ev.bind_mono fun (v39 : Value) => (Ev.bind_mono fun (v40 : Value) => (Ev.bind_mono fun (r41 : Value × World) => (Ev.bind_mono fun (r42 : Value × World) => (condK_mono (Ev.bind_mono fun (v43 : Value) => (s54L2of)) (s54L3of))))))) (s54L4of)))))))))))) h))
theorem e54 {x0 x1 : Value} {w : World} {Q : Value × World → Prop} (h : Brings (s54 x0 x1 w) Q) : Brings (Xcall Tryd.prog (Value.func (Fn.func 54) #[] #[]) #[x0, x1] w) Q :=
  h.call (Xcall_fn Tryd.func54 (by decide +kernel) (by rfl) _ _ _ w) fun _ h => c54 h

/-! bytes.ContainsAny -/
noncomputable def s41 (x0 x1 : Value) (w : World) : Option (Value × World) :=
  (Xcall Tryd.prog (Value.func (Fn.func 54) #[] #[]) #[x0, x1] w).bind fun r120 =>
  (Qbin Tryd.prog .geq 3 r120.1 (Value.int .i64 0)).bind fun v121 =>
  some (v121, r120.2)
theorem s41eq (x0 x1 : Value) (w : World) : evK Tryd.prog 41 none (bodyOf Tryd.f41) none _ { tmps := (([x0, x1] : List Value) ++ List.replicate (9 - 2) undef).toArray, defers := [] } w (leaveK Tryd.prog Tryd.f41) = s41 x0 x1 w := by kernel_rfl
theorem c41 {x0 x1 : Value} {w : World} {r : Value × World} (h : s41 x0 x1 w = some r) : C Tryd.prog 41 #[x0, x1] w = some r :=
  C_ev follows_all drawLaw (by kernel_rfl) Tryd.func41 (by rfl) ((s41eq x0 x1 w).trans h)
theorem e41 {x0 x1 : Value} {w : World} {Q : Value × World → Prop} (h : Brings (s41 x0 x1 w) Q) : Brings (Xcall Tryd.prog (Value.func (Fn.func 41) #[] #[]) #[x0, x1] w) Q :=
  h.call (Xcall_fn Tryd.func41 (by decide +kernel) (by rfl) _ _ _ w) fun _ h => c41 h

/-! bytes.makeASCIISet -/
noncomputable def s72K0 : Exit → Act → World → Option (Value × World) := seqK (fun a w => evK Tryd.prog 72 none (nav [1, 1] (bodyOf Tryd.f72)) none _ a w (leaveK Tryd.prog Tryd.f72)) (leaveK Tryd.prog Tryd.f72)
noncomputable def s72K1 : Exit → Act → World → Option (Value × World) := blockK 0 s72K0
noncomputable def s72L0 (s : List Value) (d : List Deferred) (w : World) : Option (Value × World) := loopN Tryd.prog 72 none (nav [1, 0, 1, 0, 0] (bodyOf Tryd.f72)) s72K1 s d w
noncomputable def s72B0 : List Value → World → Option (Exit × List Value × World)
  | [x0, x2, x3, x4], w =>
    (Qlen Tryd.prog #[9] 3 #[x0] w).bind fun v123 =>
    (Qbin Tryd.prog .lss 3 x4 v123).bind fun v124 =>
    condK v124 (
      (Qindex Tryd.prog 9 x0 x4 w).bind fun v125 =>
      (Qbin Tryd.prog .geq 5 v125 (Value.int .u8 128)).bind fun v126 =>
      condK v126 (
        (Qload Tryd.prog 129 x2 w).bind fun v127 =>
        (Xstore Tryd.prog 129 x2 v127 w).bind fun r128 =>
        some (Exit.ret, [x0, x2, (Value.bool false), x4], r128.2)
      ) (
        (QindexAddr Tryd.prog 129 x2 v125 w).bind fun v129 =>
        (Xstore Tryd.prog 4 v129 (Value.bool true) w).bind fun r130 =>
        (Qbin Tryd.prog .add 3 x4 (Value.int .i64 1)).bind fun v131 =>
        some (Exit.normal, [x0, x2, x3, v131], r130.2)
      )
    ) (
      some ((Exit.exit 0), [x0, x2, x3, x4], w)
    )
  | _, _ => none
noncomputable def s72R0 : Exit → List Value → World → Option (Value × World)
  | (Exit.exit 0), [_, x2, _, _], w =>
    (Qload Tryd.prog 129 x2 w).bind fun v132 =>
    (Xstore Tryd.prog 129 x2 v132 w).bind fun r133 =>
    ((((Qload Tryd.prog 129 x2 r133.2).bind fun v => ((((some [])).map fun vs => (Value.bool true) :: vs)).map fun vs => v :: vs)).map oneOf).map fun v => (v, r133.2)
  | Exit.ret, [_, x2, x3, _], w =>
    ((((Qload Tryd.prog 129 x2 w).bind fun v => ((((some [])).map fun vs => x3 :: vs)).map fun vs => v :: vs)).map oneOf).map fun v => (v, w)
  | _, _, _ => none
noncomputable def s72raw (x0 : Value) (w : World) : Option (Value × World) :=
  (Xalloc Tryd.prog 129 w).bind fun r122 =>
  s72L0 [x0, undef, r122.1, (Value.bool false), (Value.int .i64 0), undef, undef, undef, undef, undef, undef, undef, undef, undef, undef, undef, undef, undef, undef, undef, undef] [] r122.2
noncomputable def s72 (x0 : Value) (w : World) : Option (Value × World) :=
  (Xalloc Tryd.prog 129 w).bind fun r122 =>
  loopR s72B0 s72R0 [x0, r122.1, (Value.bool false), (Value.int .i64 0)] r122.2
theorem s72B0eq (x0 x2 x3 x4 : Value) (w : World) (g : Nat → Value) (d : List Deferred) : evK Tryd.prog 72 none (nav [1, 0, 1, 0, 0] (bodyOf Tryd.f72)) none _ (frm 21 (setL [0, 2, 3, 4] [x0, x2, x3, x4] g) d) w (projK [0, 2, 3, 4]) = s72B0 [x0, x2, x3, x4] w := by kernel_rfl
theorem s72R0x0eq (x0 x2 x3 x4 : Value) (g : Nat → Value) (w : World) : s72K1 (Exit.exit 0) (frm 21 (setL [0, 2, 3, 4] [x0, x2, x3, x4] g) []) w = s72R0 (Exit.exit 0) [x0, x2, x3, x4] w := by kernel_rfl
theorem s72R0ret_eq (x0 x2 x3 x4 : Value) (g : Nat → Value) (w : World) : s72K1 Exit.ret (frm 21 (setL [0, 2, 3, 4] [x0, x2, x3, x4] g) []) w = s72R0 Exit.ret [x0, x2, x3, x4] w := by kernel_rfl
theorem s72R0of : ∀ (e : Exit) (xs : List Value) (w : World) (g : Nat → Value) (y : _), s72R0 e xs w = some y → s72K1 e (frm 21 (setL [0, 2, 3, 4] xs g) []) w = some y := by
  intro e xs w g y h
  unfold s72R0 at h
  split at h
  · exact (s72R0x0eq _ _ _ _ g _).trans h
  · exact (s72R0ret_eq _ _ _ _ g _).trans h
  · cases h
set_option maxRecDepth 20000 in
theorem s72L0of {aA aB aC aD aE aF aG aH aI aJ aK aL aM aN aO aP aQ aR aS aT aU : Value} {w : World} {r : _} (h : loopR s72B0 s72R0 [aA,aC,aD,aE] w = some r) : s72L0 [aA,aB,aC,aD,aE,aF,aG,aH,aI,aJ,aK,aL,aM,aN,aO,aP,aQ,aR,aS,aT,aU] [] w = some r :=
  loopN_of (B := s72B0) (R := s72R0) (n := 21) (live := [0, 2, 3, 4]) (fun xs w g y hl h => match xs, hl, h with | [x0, x2, x3, x4], _, h => (s72B0eq x0 x2 x3 x4 w g []).trans h) (by kernel_rfl) (s72R0of) (fun i => ([aA,aB,aC,aD,aE,aF,aG,aH,aI,aJ,aK,aL,aM,aN,aO,aP,aQ,aR,aS,aT,aU] : List Value).getD i undef) (by kernel_rfl) rfl h
theorem s72eq (x0 : Value) (w : World) : evK Tryd.prog 72 none (bodyOf Tryd.f72) none _ { tmps := (([x0] : List Value) ++ List.replicate (21 - 1) undef).toArray, defers := [] } w (leaveK Tryd.prog Tryd.f72) = s72raw x0 w := by kernel_rfl
theorem c72 {x0 : Value} {w : World} {r : Value × World} (h : s72 x0 w = some r) : C Tryd.prog 72 #[x0] w = some r :=
  C_ev follows_all drawLaw (by kernel_rfl) Tryd.func72 (by rfl) ((s72eq x0 w).trans (show s72raw x0 w = some r from (Ev.bind_mono fun (r122 : Value × World) => (s72L0of)) h))
theorem e72 {x0 : Value} {w : World} {Q : Value × World → Prop} (h : Brings (s72 x0 w) Q) : Brings (Xcall Tryd.prog (Value.func (Fn.func 72) #[] #[]) #[x0] w) Q :=
  h.call (Xcall_fn Tryd.func72 (by decide +kernel) (by rfl) _ _ _ w) fun _ h => c72 h

/-! (*bytes.asciiSet).contains -/
noncomputable def s73 (x0 x1 : Value) (w : World) : Option (Value × World) :=
  (Qnil x0).bind fun v134 =>
  (QindexAddr Tryd.prog 129 v134 x1 w).bind fun v135 =>
  (Qload Tryd.prog 4 v135 w).bind fun v136 =>
  some (v136, w)
theorem s73eq (x0 x1 : Value) (w : World) : evK Tryd.prog 73 none (bodyOf Tryd.f73) none _ { tmps := (([x0, x1] : List Value) ++ List.replicate (10 - 2) undef).toArray, defers := [] } w (leaveK Tryd.prog Tryd.f73) = s73 x0 x1 w := by kernel_rfl
theorem c73 {x0 x1 : Value} {w : World} {r : Value × World} (h : s73 x0 x1 w = some r) : C Tryd.prog 73 #[x0, x1] w = some r :=
  C_ev follows_all drawLaw (by kernel_rfl) Tryd.func73 (by rfl) ((s73eq x0 x1 w).trans h)
theorem e73 {x0 x1 : Value} {w : World} {Q : Value × World → Prop} (h : Brings (s73 x0 x1 w) Q) : Brings (Xcall Tryd.prog (Value.func (Fn.func 73) #[] #[]) #[x0, x1] w) Q :=
  h.call (Xcall_fn Tryd.func73 (by decide +kernel) (by rfl) _ _ _ w) fun _ h => c73 h

/-! bytes.shouldUseASCIISet -/
noncomputable def s71 (x0 : Value) (w : World) : Option (Value × World) :=
  (Qbin Tryd.prog .gtr 3 x0 (Value.int .i64 8)).bind fun v137 =>
  some (v137, w)
theorem s71eq (x0 : Value) (w : World) : evK Tryd.prog 71 none (bodyOf Tryd.f71) none _ { tmps := (([x0] : List Value) ++ List.replicate (5 - 1) undef).toArray, defers := [] } w (leaveK Tryd.prog Tryd.f71) = s71 x0 w := by kernel_rfl
theorem c71 {x0 : Value} {w : World} {r : Value × World} (h : s71 x0 w = some r) : C Tryd.prog 71 #[x0] w = some r :=
  C_ev follows_all drawLaw (by kernel_rfl) Tryd.func71 (by rfl) ((s71eq x0 w).trans h)
theorem e71 {x0 : Value} {w : World} {Q : Value × World → Prop} (h : Brings (s71 x0 w) Q) : Brings (Xcall Tryd.prog (Value.func (Fn.func 71) #[] #[]) #[x0] w) Q :=
  h.call (Xcall_fn Tryd.func71 (by decide +kernel) (by rfl) _ _ _ w) fun _ h => c71 h

/-! unicode/utf8.DecodeRune -/
noncomputable def s74K0 : Exit → Act → World → Option (Value × World) := seqK (fun a w => evK Tryd.prog 74 none (nav [1, 1] (bodyOf Tryd.f74)) none _ a w (leaveK Tryd.prog Tryd.f74)) (leaveK Tryd.prog Tryd.f74)
noncomputable def s74K1 : Exit → Act → World → Option (Value × World) := blockK 0 s74K0
noncomputable def s74L0 (s : List Value) (d : List Deferred) (w : World) : Option (Value × World) := loopN Tryd.prog 74 none (nav [1, 0, 1, 0, 0] (bodyOf Tryd.f74)) s74K1 s d w
noncomputable def s74B0 : List Value → World → Option (Exit × List Value × World)
  | [x0, x2, x3, x6, x7, x8], w =>
    (Qbin Tryd.prog .lss 3 x8 x7).bind fun v139 =>
    condK v139 (
      (QindexAddr Tryd.prog 22 x6 x8 w).bind fun v140 =>
      (Qload Tryd.prog 5 v140 w).bind fun v141 =>
      (Qbin Tryd.prog .lss 5 v141 (Value.int .u8 128)).bind fun v142 =>
      condK v142 (
        (Qconv Tryd.prog 5 21 v141).bind fun v143 =>
        some (Exit.ret, [x0, v143, (Value.int .i64 1), x6, x7, x8], w)
      ) (
        some ((Exit.exit 0), [x0, x2, x3, x6, x7, x8], w)
      )
    ) (
      some ((Exit.exit 0), [x0, x2, x3, x6, x7, x8], w)
    )
  | _, _ => none
noncomputable def s74R0 : Exit → List Value → World → Option (Value × World)
  | (Exit.exit 0), [x0, _, _, _, _, _], w =>
    (Xcall Tryd.prog (Value.func (Fn.func 93) #[] #[]) #[x0] w).bind fun r144 =>
    (Qext r144.1 0).bind fun v145 =>
    (Qext r144.1 1).bind fun v146 =>
    some ((Value.tuple #[v145, v146]), r144.2)
  | Exit.ret, [_, x2, x3, _, _, _], w =>
    some ((Value.tuple #[x2, x3]), w)
  | _, _, _ => none
noncomputable def s74raw (x0 : Value) (w : World) : Option (Value × World) :=
  (Qlen Tryd.prog #[22] 3 #[x0] w).bind fun v138 =>
  s74L0 [x0, undef, (Value.int .i32 0), (Value.int .i64 0), undef, undef, x0, v138, (Value.int .i64 0), undef, undef, undef, undef, undef, undef, undef, undef, undef, undef, undef, undef, undef] [] w
noncomputable def s74 (x0 : Value) (w : World) : Option (Value × World) :=
  (Qlen Tryd.prog #[22] 3 #[x0] w).bind fun v138 =>
  loopR s74B0 s74R0 [x0, (Value.int .i32 0), (Value.int .i64 0), x0, v138, (Value.int .i64 0)] w
theorem s74B0eq (x0 x2 x3 x6 x7 x8 : Value) (w : World) (g : Nat → Value) (d : List Deferred) : evK Tryd.prog 74 none (nav [1, 0, 1, 0, 0] (bodyOf Tryd.f74)) none _ (frm 22 (setL [0, 2, 3, 6, 7, 8] [x0, x2, x3, x6, x7, x8] g) d) w (projK [0, 2, 3, 6, 7, 8]) = s74B0 [x0, x2, x3, x6, x7, x8] w := by kernel_rfl
theorem s74R0x0eq (x0 x2 x3 x6 x7 x8 : Value) (g : Nat → Value) (w : World) : s74K1 (Exit.exit 0) (frm 22 (setL [0, 2, 3, 6, 7, 8] [x0, x2, x3, x6, x7, x8] g) []) w = s74R0 (Exit.exit 0) [x0, x2, x3, x6, x7, x8] w := by kernel_rfl
theorem s74R0ret_eq (x0 x2 x3 x6 x7 x8 : Value) (g : Nat → Value) (w : World) : s74K1 Exit.ret (frm 22 (setL [0, 2, 3, 6, 7, 8] [x0, x2, x3, x6, x7, x8] g) []) w = s74R0 Exit.ret [x0, x2, x3, x6, x7, x8] w := by kernel_rfl
theorem s74R0of : ∀ (e : Exit) (xs : List Value) (w : World) (g : Nat → Value) (y : _), s74R0 e xs w = some y → s74K1 e (frm 22 (setL [0, 2, 3, 6, 7, 8] xs g) []) w = some y := by
  intro e xs w g y h
  unfold s74R0 at h
  split at h
  · exact (s74R0x0eq _ _ _ _ _ _ g _).trans h
  · exact (s74R0ret_eq _ _ _ _ _ _ g _).trans h
  · cases h
set_option maxRecDepth 20000 in
theorem s74L0of {aA aB aC aD aE aF aG aH aI aJ aK aL aM aN aO aP aQ aR aS aT aU aV : Value} {w : World} {r : _} (h : loopR s74B0 s74R0 [aA,aC,aD,aG,aH,aI] w = some r) : s74L0 [aA,aB,aC,aD,aE,aF,aG,aH,aI,aJ,aK,aL,aM,aN,aO,aP,aQ,aR,aS,aT,aU,aV] [] w = some r :=
  loopN_of (B := s74B0) (R := s74R0) (n := 22) (live := [0, 2, 3, 6, 7, 8]) (fun xs w g y hl h => match xs, hl, h with | [x0, x2, x3, x6, x7, x8], _, h => (s74B0eq x0 x2 x3 x6 x7 x8 w g []).trans h) (by kernel_rfl) (s74R0of) (fun i => ([aA,aB,aC,aD,aE,aF,aG,aH,aI,aJ,aK,aL,aM,aN,aO,aP,aQ,aR,aS,aT,aU,aV] : List Value).getD i undef) (by kernel_rfl) rfl h
theorem s74eq (x0 : Value) (w : World) : evK Tryd.prog 74 none (bodyOf Tryd.f74) none _ { tmps := (([x0] : List Value) ++ List.replicate (22 - 1) undef).toArray, defers := [] } w (leaveK Tryd.prog Tryd.f74) = s74raw x0 w := by kernel_rfl
theorem c74 {x0 : Value} {w : World} {r : Value × World} (h : s74 x0 w = some r) : C Tryd.prog 74 #[x0] w = some r :=
  C_ev follows_all drawLaw (by kernel_rfl) Tryd.func74 (by rfl) ((s74eq x0 w).trans (show s74raw x0 w = some r from (Ev.bind_mono fun (v138 : Value) => (s74L0of)) h))
theorem e74 {x0 : Value} {w : World} {Q : Value × World → Prop} (h : Brings (s74 x0 w) Q) : Brings (Xcall Tryd.prog (Value.func (Fn.func 74) #[] #[]) #[x0] w) Q :=
  h.call (Xcall_fn Tryd.func74 (by decide +kernel) (by rfl) _ _ _ w) fun _ h => c74 h

/-! unicode/utf8.decodeRuneSlow -/
noncomputable def s93 (x0 : Value) (w : World) : Option (Value × World) :=
  (Qlen Tryd.prog #[22] 3 #[x0] w).bind fun v147 =>
  (Qbin Tryd.prog .lss 3 v147 (Value.int .i64 1)).bind fun v148 =>
  condK v148 (
    some ((Value.tuple #[(Value.int .i32 65533), (Value.int .i64 0)]), w)
  ) (
    (QindexAddr Tryd.prog 22 x0 (Value.int .i64 0) w).bind fun v149 =>
    (Qload Tryd.prog 5 v149 w).bind fun v150 =>
    (QindexAddr Tryd.prog 153 (Value.pointer (some ⟨1, 0, none⟩)) v150 w).bind fun v151 =>
    (Qload Tryd.prog 5 v151 w).bind fun v152 =>
    (Qbin Tryd.prog .geq 5 v152 (Value.int .u8 240)).bind fun v153 =>
    condK v153 (
      (Qconv Tryd.prog 5 21 v152).bind fun v154 =>
      (Qbin Tryd.prog .shl 21 v154 (Value.int .u64 31)).bind fun v155 =>
      (Qbin Tryd.prog .shr 21 v155 (Value.int .u64 31)).bind fun v156 =>
      (QindexAddr Tryd.prog 22 x0 (Value.int .i64 0) w).bind fun v157 =>
      (Qload Tryd.prog 5 v157 w).bind fun v158 =>
      (Qconv Tryd.prog 5 21 v158).bind fun v159 =>
      (Qbin Tryd.prog .andNot 21 v159 v156).bind fun v160 =>
      (Qbin Tryd.prog .and 21 (Value.int .i32 65533) v156).bind fun v161 =>
      (Qbin Tryd.prog .or 21 v160 v161).bind fun v162 =>
      some ((Value.tuple #[v162, (Value.int .i64 1)]), w)
    ) (
      (Qbin Tryd.prog .and 5 v152 (Value.int .u8 7)).bind fun v163 =>
      (Qconv Tryd.prog 5 3 v163).bind fun v164 =>
      (Qbin Tryd.prog .shr 5 v152 (Value.int .u64 4)).bind fun v165 =>
      (QindexAddr Tryd.prog 156 (Value.pointer (some ⟨2, 0, none⟩)) v165 w).bind fun v166 =>
      (Qload Tryd.prog 155 v166 w).bind fun v167 =>
      (Xalloc Tryd.prog 155 w).bind fun r168 =>
      (Xstore Tryd.prog 155 r168.1 v167 r168.2).bind fun r169 =>
      (Qbin Tryd.prog .lss 3 v147 v164).bind fun v170 =>
      condK v170 (
        some ((Value.tuple #[(Value.int .i32 65533), (Value.int .i64 1)]), r169.2)
      ) (
        (QindexAddr Tryd.prog 22 x0 (Value.int .i64 1) r169.2).bind fun v171 =>
        (Qload Tryd.prog 5 v171 r169.2).bind fun v172 =>
        (QfieldAddr Tryd.prog 155 r168.1 0).bind fun v173 =>
        (Qload Tryd.prog 5 v173 r169.2).bind fun v174 =>
        (Qbin Tryd.prog .lss 5 v172 v174).bind fun v175 =>
        (guardQ v175 false (QfieldAddr Tryd.prog 155 r168.1 1)).bind fun v176 =>
        (guardQ v175 false (Qload Tryd.prog 5 v176 r169.2)).bind fun v177 =>
        (guardQ v175 false (Qbin Tryd.prog .lss 5 v177 (gv (isB v175 false) v172))).bind fun v178 =>
        (Qpick v175 (Value.bool true) v178).bind fun v179 =>
        condK v179 (
          some ((Value.tuple #[(Value.int .i32 65533), (Value.int .i64 1)]), r169.2)
        ) (
          (Qbin Tryd.prog .leq 3 v164 (Value.int .i64 2)).bind fun v180 =>
          condK v180 (
            (Qbin Tryd.prog .and 5 v150 (Value.int .u8 31)).bind fun v181 =>
            (Qconv Tryd.prog 5 21 v181).bind fun v182 =>
            (Qbin Tryd.prog .shl 21 v182 (Value.int .u64 6)).bind fun v183 =>
            (Qbin Tryd.prog .and 5 v172 (Value.int .u8 63)).bind fun v184 =>
            (Qconv Tryd.prog 5 21 v184).bind fun v185 =>
            (Qbin Tryd.prog .or 21 v183 v185).bind fun v186 =>
            some ((Value.tuple #[v186, (Value.int .i64 2)]), r169.2)
          ) (
            (QindexAddr Tryd.prog 22 x0 (Value.int .i64 2) r169.2).bind fun v187 =>
            (Qload Tryd.prog 5 v187 r169.2).bind fun v188 =>
            (Qbin Tryd.prog .lss 5 v188 (Value.int .u8 128)).bind fun v189 =>
            (guardQ v189 false (Qbin Tryd.prog .lss 5 (Value.int .u8 191) (gv (isB v189 false) v188))).bind fun v190 =>
            (Qpick v189 (Value.bool true) v190).bind fun v191 =>
            condK v191 (
              some ((Value.tuple #[(Value.int .i32 65533), (Value.int .i64 1)]), r169.2)
            ) (
              (Qbin Tryd.prog .leq 3 v164 (Value.int .i64 3)).bind fun v192 =>
              condK v192 (
                (Qbin Tryd.prog .and 5 v150 (Value.int .u8 15)).bind fun v193 =>
                (Qconv Tryd.prog 5 21 v193).bind fun v194 =>
                (Qbin Tryd.prog .shl 21 v194 (Value.int .u64 12)).bind fun v195 =>
                (Qbin Tryd.prog .and 5 v172 (Value.int .u8 63)).bind fun v196 =>
                (Qconv Tryd.prog 5 21 v196).bind fun v197 =>
                (Qbin Tryd.prog .shl 21 v197 (Value.int .u64 6)).bind fun v198 =>
                (Qbin Tryd.prog .or 21 v195 v198).bind fun v199 =>
                (Qbin Tryd.prog .and 5 v188 (Value.int .u8 63)).bind fun v200 =>
                (Qconv Tryd.prog 5 21 v200).bind fun v201 =>
                (Qbin Tryd.prog .or 21 v199 v201).bind fun v202 =>
                some ((Value.tuple #[v202, (Value.int .i64 3)]), r169.2)
              ) (
                (QindexAddr Tryd.prog 22 x0 (Value.int .i64 3) r169.2).bind fun v203 =>
                (Qload Tryd.prog 5 v203 r169.2).bind fun v204 =>
                (Qbin Tryd.prog .lss 5 v204 (Value.int .u8 128)).bind fun v205 =>
                (guardQ v205 false (Qbin Tryd.prog .lss 5 (Value.int .u8 191) (gv (isB v205 false) v204))).bind fun v206 =>
                (Qpick v205 (Value.bool true) v206).bind fun v207 =>
                condK v207 (
                  some ((Value.tuple #[(Value.int .i32 65533), (Value.int .i64 1)]), r169.2)
                ) (
                  (Qbin Tryd.prog .and 5 v150 (Value.int .u8 7)).bind fun v208 =>
                  (Qconv Tryd.prog 5 21 v208).bind fun v209 =>
                  (Qbin Tryd.prog .shl 21 v209 (Value.int .u64 18)).bind fun v210 =>
                  (Qbin Tryd.prog .and 5 v172 (Value.int .u8 63)).bind fun v211 =>
                  (Qconv Tryd.prog 5 21 v211).bind fun v212 =>
                  (Qbin Tryd.prog .shl 21 v212 (Value.int .u64 12)).bind fun v213 =>
                  (Qbin Tryd.prog .or 21 v210 v213).bind fun v214 =>
                  (Qbin Tryd.prog .and 5 v188 (Value.int .u8 63)).bind fun v215 =>
                  (Qconv Tryd.prog 5 21 v215).bind fun v216 =>
                  (Qbin Tryd.prog .shl 21 v216 (Value.int .u64 6)).bind fun v217 =>
                  (Qbin Tryd.prog .or 21 v214 v217).bind fun v218 =>
                  (Qbin Tryd.prog .and 5 v204 (Value.int .u8 63)).bind fun v219 =>
                  (Qconv Tryd.prog 5 21 v219).bind fun v220 =>
                  (Qbin Tryd.prog .or 21 v218 v220).bind fun v221 =>
                  some ((Value.tuple #[v221, (Value.int .i64 4)]), r169.2)
                )
              )
            )
          )
        )
      )
    )
  )
theorem s93eq (x0 : Value) (w : World) : evK Tryd.prog 93 none (bodyOf Tryd.f93) none _ { tmps := (([x0] : List Value) ++ List.replicate (122 - 1) undef).toArray, defers := [] } w (leaveK Tryd.prog Tryd.f93) = s93 x0 w := by kernel_rfl
set_option maxRecDepth 100000 in
theorem c93 {x0 : Value} {w : World} {r : Value × World} (h : s93 x0 w = some r) : C Tryd.prog 93 #[x0] w = some r :=
  C_ev follows_all drawLaw (by kernel_rfl) Tryd.func93 (by rfl) ((s93eq x0 w).trans h)
theorem e93 {x0 : Value} {w : World} {Q : Value × World → Prop} (h : Brings (s93 x0 w) Q) : Brings (Xcall Tryd.prog (Value.func (Fn.func 93) #[] #[]) #[x0] w) Q :=
  h.call (Xcall_fn Tryd.func93 (by decide +kernel) (by rfl) _ _ _ w) fun _ h => c93 h

/-! unicode/utf8.DecodeRuneInString -/
noncomputable def s55 (x0 : Value) (w : World) : Option (Value × World) :=
  (Qbin Tryd.prog .neq 9 x0 (Value.string { data := #[] })).bind fun v222 =>
  (guardQ v222 true (Qindex Tryd.prog 9 (gv (isB v222 true) x0) (Value.int .i64 0) w)).bind fun v223 =>
  (guardQ v222 true (Qbin Tryd.prog .lss 5 v223 (Value.int .u8 128))).bind fun v224 =>
  (Qpick v222 v224 (Value.bool false)).bind fun v225 =>
  condK v225 (
    (Qindex Tryd.prog 9 x0 (Value.int .i64 0) w).bind fun v226 =>
    (Qconv Tryd.prog 5 21 v226).bind fun v227 =>
    some ((Value.tuple #[v227, (Value.int .i64 1)]), w)
  ) (
    (Xcall Tryd.prog (Value.func (Fn.func 76) #[] #[]) #[x0] w).bind fun r228 =>
    (Qext r228.1 0).bind fun v229 =>
    (Qext r228.1 1).bind fun v230 =>
    some ((Value.tuple #[v229, v230]), r228.2)
  )
theorem s55eq (x0 : Value) (w : World) : evK Tryd.prog 55 none (bodyOf Tryd.f55) none _ { tmps := (([x0] : List Value) ++ List.replicate (19 - 1) undef).toArray, defers := [] } w (leaveK Tryd.prog Tryd.f55) = s55 x0 w := by kernel_rfl
theorem c55 {x0 : Value} {w : World} {r : Value × World} (h : s55 x0 w = some r) : C Tryd.prog 55 #[x0] w = some r :=
  C_ev follows_all drawLaw (by kernel_rfl) Tryd.func55 (by rfl) ((s55eq x0 w).trans h)
theorem e55 {x0 : Value} {w : World} {Q : Value × World → Prop} (h : Brings (s55 x0 w) Q) : Brings (Xcall Tryd.prog (Value.func (Fn.func 55) #[] #[]) #[x0] w) Q :=
  h.call (Xcall_fn Tryd.func55 (by decide +kernel) (by rfl) _ _ _ w) fun _ h => c55 h

/-! unicode/utf8.decodeRuneInStringSlow -/
noncomputable def s76 (x0 : Value) (w : World) : Option (Value × World) :=
  (Qlen Tryd.prog #[9] 3 #[x0] w).bind fun v231 =>
  (Qbin Tryd.prog .lss 3 v231 (Value.int .i64 1)).bind fun v232 =>
  condK v232 (
    some ((Value.tuple #[(Value.int .i32 65533), (Value.int .i64 0)]), w)
  ) (
    (Qindex Tryd.prog 9 x0 (Value.int .i64 0) w).bind fun v233 =>
    (QindexAddr Tryd.prog 153 (Value.pointer (some ⟨1, 0, none⟩)) v233 w).bind fun v234 =>
    (Qload Tryd.prog 5 v234 w).bind fun v235 =>
    (Qbin Tryd.prog .geq 5 v235 (Value.int .u8 240)).bind fun v236 =>
    condK v236 (
      (Qconv Tryd.prog 5 21 v235).bind fun v237 =>
      (Qbin Tryd.prog .shl 21 v237 (Value.int .u64 31)).bind fun v238 =>
      (Qbin Tryd.prog .shr 21 v238 (Value.int .u64 31)).bind fun v239 =>
      (Qindex Tryd.prog 9 x0 (Value.int .i64 0) w).bind fun v240 =>
      (Qconv Tryd.prog 5 21 v240).bind fun v241 =>
      (Qbin Tryd.prog .andNot 21 v241 v239).bind fun v242 =>
      (Qbin Tryd.prog .and 21 (Value.int .i32 65533) v239).bind fun v243 =>
      (Qbin Tryd.prog .or 21 v242 v243).bind fun v244 =>
      some ((Value.tuple #[v244, (Value.int .i64 1)]), w)
    ) (
      (Qbin Tryd.prog .and 5 v235 (Value.int .u8 7)).bind fun v245 =>
      (Qconv Tryd.prog 5 3 v245).bind fun v246 =>
      (Qbin Tryd.prog .shr 5 v235 (Value.int .u64 4)).bind fun v247 =>
      (QindexAddr Tryd.prog 156 (Value.pointer (some ⟨2, 0, none⟩)) v247 w).bind fun v248 =>
      (Qload Tryd.prog 155 v248 w).bind fun v249 =>
      (Xalloc Tryd.prog 155 w).bind fun r250 =>
      (Xstore Tryd.prog 155 r250.1 v249 r250.2).bind fun r251 =>
      (Qbin Tryd.prog .lss 3 v231 v246).bind fun v252 =>
      condK v252 (
        some ((Value.tuple #[(Value.int .i32 65533), (Value.int .i64 1)]), r251.2)
      ) (
        (Qindex Tryd.prog 9 x0 (Value.int .i64 1) r251.2).bind fun v253 =>
        (QfieldAddr Tryd.prog 155 r250.1 0).bind fun v254 =>
        (Qload Tryd.prog 5 v254 r251.2).bind fun v255 =>
        (Qbin Tryd.prog .lss 5 v253 v255).bind fun v256 =>
        (guardQ v256 false (QfieldAddr Tryd.prog 155 r250.1 1)).bind fun v257 =>
        (guardQ v256 false (Qload Tryd.prog 5 v257 r251.2)).bind fun v258 =>
        (guardQ v256 false (Qbin Tryd.prog .lss 5 v258 (gv (isB v256 false) v253))).bind fun v259 =>
        (Qpick v256 (Value.bool true) v259).bind fun v260 =>
        condK v260 (
          some ((Value.tuple #[(Value.int .i32 65533), (Value.int .i64 1)]), r251.2)
        ) (
          (Qbin Tryd.prog .leq 3 v246 (Value.int .i64 2)).bind fun v261 =>
          condK v261 (
            (Qbin Tryd.prog .and 5 v233 (Value.int .u8 31)).bind fun v262 =>
            (Qconv Tryd.prog 5 21 v262).bind fun v263 =>
            (Qbin Tryd.prog .shl 21 v263 (Value.int .u64 6)).bind fun v264 =>
            (Qbin Tryd.prog .and 5 v253 (Value.int .u8 63)).bind fun v265 =>
            (Qconv Tryd.prog 5 21 v265).bind fun v266 =>
            (Qbin Tryd.prog .or 21 v264 v266).bind fun v267 =>
            some ((Value.tuple #[v267, (Value.int .i64 2)]), r251.2)
          ) (
            (Qindex Tryd.prog 9 x0 (Value.int .i64 2) r251.2).bind fun v268 =>
            (Qbin Tryd.prog .lss 5 v268 (Value.int .u8 128)).bind fun v269 =>
            (guardQ v269 false (Qbin Tryd.prog .lss 5 (Value.int .u8 191) (gv (isB v269 false) v268))).bind fun v270 =>
            (Qpick v269 (Value.bool true) v270).bind fun v271 =>
            condK v271 (
              some ((Value.tuple #[(Value.int .i32 65533), (Value.int .i64 1)]), r251.2)
            ) (
              (Qbin Tryd.prog .leq 3 v246 (Value.int .i64 3)).bind fun v272 =>
              condK v272 (
                (Qbin Tryd.prog .and 5 v233 (Value.int .u8 15)).bind fun v273 =>
                (Qconv Tryd.prog 5 21 v273).bind fun v274 =>
                (Qbin Tryd.prog .shl 21 v274 (Value.int .u64 12)).bind fun v275 =>
                (Qbin Tryd.prog .and 5 v253 (Value.int .u8 63)).bind fun v276 =>
                (Qconv Tryd.prog 5 21 v276).bind fun v277 =>
                (Qbin Tryd.prog .shl 21 v277 (Value.int .u64 6)).bind fun v278 =>
                (Qbin Tryd.prog .or 21 v275 v278).bind fun v279 =>
                (Qbin Tryd.prog .and 5 v268 (Value.int .u8 63)).bind fun v280 =>
                (Qconv Tryd.prog 5 21 v280).bind fun v281 =>
                (Qbin Tryd.prog .or 21 v279 v281).bind fun v282 =>
                some ((Value.tuple #[v282, (Value.int .i64 3)]), r251.2)
              ) (
                (Qindex Tryd.prog 9 x0 (Value.int .i64 3) r251.2).bind fun v283 =>
                (Qbin Tryd.prog .lss 5 v283 (Value.int .u8 128)).bind fun v284 =>
                (guardQ v284 false (Qbin Tryd.prog .lss 5 (Value.int .u8 191) (gv (isB v284 false) v283))).bind fun v285 =>
                (Qpick v284 (Value.bool true) v285).bind fun v286 =>
                condK v286 (
                  some ((Value.tuple #[(Value.int .i32 65533), (Value.int .i64 1)]), r251.2)
                ) (
                  (Qbin Tryd.prog .and 5 v233 (Value.int .u8 7)).bind fun v287 =>
                  (Qconv Tryd.prog 5 21 v287).bind fun v288 =>
                  (Qbin Tryd.prog .shl 21 v288 (Value.int .u64 18)).bind fun v289 =>
                  (Qbin Tryd.prog .and 5 v253 (Value.int .u8 63)).bind fun v290 =>
                  (Qconv Tryd.prog 5 21 v290).bind fun v291 =>
                  (Qbin Tryd.prog .shl 21 v291 (Value.int .u64 12)).bind fun v292 =>
                  (Qbin Tryd.prog .or 21 v289 v292).bind fun v293 =>
                  (Qbin Tryd.prog .and 5 v268 (Value.int .u8 63)).bind fun v294 =>
                  (Qconv Tryd.prog 5 21 v294).bind fun v295 =>
                  (Qbin Tryd.prog .shl 21 v295 (Value.int .u64 6)).bind fun v296 =>
                  (Qbin Tryd.prog .or 21 v293 v296).bind fun v297 =>
                  (Qbin Tryd.prog .and 5 v283 (Value.int .u8 63)).bind fun v298 =>
                  (Qconv Tryd.prog 5 21 v298).bind fun v299 =>
                  (Qbin Tryd.prog .or 21 v297 v299).bind fun v300 =>
                  some ((Value.tuple #[v300, (Value.int .i64 4)]), r251.2)
                )
              )
            )
          )
        )
      )
    )
  )
theorem s76eq (x0 : Value) (w : World) : evK Tryd.prog 76 none (bodyOf Tryd.f76) none _ { tmps := (([x0] : List Value) ++ List.replicate (117 - 1) undef).toArray, defers := [] } w (leaveK Tryd.prog Tryd.f76) = s76 x0 w := by kernel_rfl
set_option maxRecDepth 100000 in
theorem c76 {x0 : Value} {w : World} {r : Value × World} (h : s76 x0 w = some r) : C Tryd.prog 76 #[x0] w = some r :=
  C_ev follows_all drawLaw (by kernel_rfl) Tryd.func76 (by rfl) ((s76eq x0 w).trans h)
theorem e76 {x0 : Value} {w : World} {Q : Value × World → Prop} (h : Brings (s76 x0 w) Q) : Brings (Xcall Tryd.prog (Value.func (Fn.func 76) #[] #[]) #[x0] w) Q :=
  h.call (Xcall_fn Tryd.func76 (by decide +kernel) (by rfl) _ _ _ w) fun _ h => c76 h

/-! unicode/utf8.RuneLen -/
noncomputable def s56 (x0 : Value) (w : World) : Option (Value × World) :=
  (Qbin Tryd.prog .lss 21 x0 (Value.int .i32 0)).bind fun v301 =>
  condK v301 (
    some ((Value.int .i64 (-1)), w)
  ) (
    (Qbin Tryd.prog .leq 21 x0 (Value.int .i32 127)).bind fun v302 =>
    condK v302 (
      some ((Value.int .i64 1), w)
    ) (
      (Qbin Tryd.prog .leq 21 x0 (Value.int .i32 2047)).bind fun v303 =>
      condK v303 (
        some ((Value.int .i64 2), w)
      ) (
        (Qbin Tryd.prog .leq 21 (Value.int .i32 55296) x0).bind fun v304 =>
        (guardQ v304 true (Qbin Tryd.prog .leq 21 (gv (isB v304 true) x0) (Value.int .i32 57343))).bind fun v305 =>
        (Qpick v304 v305 (Value.bool false)).bind fun v306 =>
        condK v306 (
          some ((Value.int .i64 (-1)), w)
        ) (
          (Qbin Tryd.prog .leq 21 x0 (Value.int .i32 65535)).bind fun v307 =>
          condK v307 (
            some ((Value.int .i64 3), w)
          ) (
            (Qbin Tryd.prog .leq 21 x0 (Value.int .i32 1114111)).bind fun v308 =>
            condK v308 (
              some ((Value.int .i64 4), w)
            ) (
              some ((Value.int .i64 (-1)), w)
            )
          )
        )
      )
    )
  )
theorem s56eq (x0 : Value) (w : World) : evK Tryd.prog 56 none (bodyOf Tryd.f56) none _ { tmps := (([x0] : List Value) ++ List.replicate (25 - 1) undef).toArray, defers := [] } w (leaveK Tryd.prog Tryd.f56) = s56 x0 w := by kernel_rfl
theorem c56 {x0 : Value} {w : World} {r : Value × World} (h : s56 x0 w = some r) : C Tryd.prog 56 #[x0] w = some r :=
  C_ev follows_all drawLaw (by kernel_rfl) Tryd.func56 (by rfl) ((s56eq x0 w).trans h)
theorem e56 {x0 : Value} {w : World} {Q : Value × World → Prop} (h : Brings (s56 x0 w) Q) : Brings (Xcall Tryd.prog (Value.func (Fn.func 56) #[] #[]) #[x0] w) Q :=
  h.call (Xcall_fn Tryd.func56 (by decide +kernel) (by rfl) _ _ _ w) fun _ h => c56 h

/-! unicode/utf8.ValidRune -/
noncomputable def s89 (x0 : Value) (w : World) : Option (Value × World) :=
  (Qbin Tryd.prog .leq 21 (Value.int .i32 0) x0).bind fun v309 =>
  (guardQ v309 true (Qbin Tryd.prog .lss 21 (gv (isB v309 true) x0) (Value.int .i32 55296))).bind fun v310 =>
  (Qpick v309 v310 (Value.bool false)).bind fun v311 =>
  condK v311 (
    some ((Value.bool true), w)
  ) (
    (Qbin Tryd.prog .lss 21 (Value.int .i32 57343) x0).bind fun v312 =>
    (guardQ v312 true (Qbin Tryd.prog .leq 21 (gv (isB v312 true) x0) (Value.int .i32 1114111))).bind fun v313 =>
    (Qpick v312 v313 (Value.bool false)).bind fun v314 =>
    condK v314 (
      some ((Value.bool true), w)
    ) (
      some ((Value.bool false), w)
    )
  )
theorem s89eq (x0 : Value) (w : World) : evK Tryd.prog 89 none (bodyOf Tryd.f89) none _ { tmps := (([x0] : List Value) ++ List.replicate (17 - 1) undef).toArray, defers := [] } w (leaveK Tryd.prog Tryd.f89) = s89 x0 w := by kernel_rfl
theorem c89 {x0 : Value} {w : World} {r : Value × World} (h : s89 x0 w = some r) : C Tryd.prog 89 #[x0] w = some r :=
  C_ev follows_all drawLaw (by kernel_rfl) Tryd.func89 (by rfl) ((s89eq x0 w).trans h)
theorem e89 {x0 : Value} {w : World} {Q : Value × World → Prop} (h : Brings (s89 x0 w) Q) : Brings (Xcall Tryd.prog (Value.func (Fn.func 89) #[] #[]) #[x0] w) Q :=
  h.call (Xcall_fn Tryd.func89 (by decide +kernel) (by rfl) _ _ _ w) fun _ h => c89 h

/-! strings.Map -/
noncomputable def s42K0 : Exit → Act → World → Option (Value × World) := seqK (fun a w => evK Tryd.prog 42 none (nav [1, 1, 1] (bodyOf Tryd.f42)) none _ a w (leaveK Tryd.prog Tryd.f42)) (leaveK Tryd.prog Tryd.f42)
noncomputable def s42K1 : Exit → Act → World → Option (Value × World) := blockK 0 s42K0
noncomputable def s42L0 (s : List Value) (d : List Deferred) (w : World) : Option (Value × World) := loopN Tryd.prog 42 none (nav [1, 1, 0, 1, 0, 0] (bodyOf Tryd.f42)) s42K1 s d w
noncomputable def s42K2 : Exit → Act → World → Option (Exit × List Value × World) := blockK 1 (projK [0, 1, 5, 14])
noncomputable def s42K3 : Exit → Act → World → Option (Exit × List Value × World) := seqK (fun a w => evK Tryd.prog 42 none (nav [1, 1, 0, 1, 0, 0, 1, 1, 0, 1, 1, 1, 1, 1] (bodyOf Tryd.f42)) none _ a w s42K2) s42K2
noncomputable def s42J1 (s : List Value) (d : List Deferred) (w : World) : Option (Exit × List Value × World) := s42K3 .normal ⟨s.toArray, d⟩ w
noncomputable def s42K4 : Exit → Act → World → Option (Value × World) := seqK (fun a w => evK Tryd.prog 42 none (nav [1, 1, 1, 1, 1] (bodyOf Tryd.f42)) none _ a w (leaveK Tryd.prog Tryd.f42)) (leaveK Tryd.prog Tryd.f42)
noncomputable def s42K5 : Exit → Act → World → Option (Value × World) := blockK 2 s42K4
noncomputable def s42L2 (s : List Value) (d : List Deferred) (w : World) : Option (Value × World) := loopN Tryd.prog 42 none (nav [1, 1, 1, 1, 0, 1, 0, 0] (bodyOf Tryd.f42)) s42K5 s d w
noncomputable def s42B2 : List Value → World → Option (Exit × List Value × World)
  | [x0, x5, x68], w =>
    (Xnext Tryd.prog x68 true 0 w).bind fun r348 =>
    (Qext r348.1 0).bind fun v349 =>
    condK v349 (
      (Qext r348.1 2).bind fun v350 =>
      (Xcall Tryd.prog x0 #[v350] r348.2).bind fun r351 =>
      (Qbin Tryd.prog .geq 21 r351.1 (Value.int .i32 0)).bind fun v352 =>
      condK v352 (
        (Qbin Tryd.prog .lss 21 r351.1 (Value.int .i32 128)).bind fun v353 =>
        condK v353 (
          (Qconv Tryd.prog 21 5 r351.1).bind fun v354 =>
          (Xcall Tryd.prog (Value.func (Fn.func 61) #[] #[]) #[x5, v354] r351.2).bind fun r355 =>
          some (Exit.normal, [x0, x5, x68], r355.2)
        ) (
          (Xcall Tryd.prog (Value.func (Fn.func 59) #[] #[]) #[x5, r351.1] r351.2).bind fun r356 =>
          some (Exit.normal, [x0, x5, x68], r356.2)
        )
      ) (
        some (Exit.normal, [x0, x5, x68], r351.2)
      )
    ) (
      some ((Exit.exit 2), [x0, x5, x68], r348.2)
    )
  | _, _ => none
noncomputable def s42R2 : Exit → List Value → World → Option (Value × World)
  | (Exit.exit 2), [_, x5, _], w =>
    (Xcall Tryd.prog (Value.func (Fn.func 62) #[] #[]) #[x5] w).bind fun r357 =>
    some (r357.1, r357.2)
  | _, _, _ => none
noncomputable def s42M1 (s0 s1 s5 s6 s8 s9 s14 : Value) (w : World) : Option (Exit × List Value × World) :=
  (Qlen Tryd.prog #[9] 3 #[s1] w).bind fun v337 =>
  (Qbin Tryd.prog .add 3 v337 (Value.int .i64 4)).bind fun v338 =>
  (Xcall Tryd.prog (Value.func (Fn.func 57) #[] #[]) #[s5, v338] w).bind fun r339 =>
  (Qslice Tryd.prog 9 s1 none (some s6) none r339.2).bind fun v340 =>
  (Xcall Tryd.prog (Value.func (Fn.func 58) #[] #[]) #[s5, v340] r339.2).bind fun r341 =>
  (Qbin Tryd.prog .geq 21 s8 (Value.int .i32 0)).bind fun v342 =>
  condK v342 (
    (Xcall Tryd.prog (Value.func (Fn.func 59) #[] #[]) #[s5, s8] r341.2).bind fun r343 =>
    (Qbin Tryd.prog .add 3 s6 s9).bind fun v344 =>
    (Qslice Tryd.prog 9 s1 (some v344) none none r343.2).bind fun v345 =>
    some ((Exit.exit 0), [s0, v345, s5, s14], r343.2)
  ) (
    (Qbin Tryd.prog .add 3 s6 s9).bind fun v346 =>
    (Qslice Tryd.prog 9 s1 (some v346) none none r341.2).bind fun v347 =>
    some ((Exit.exit 0), [s0, v347, s5, s14], r341.2)
  )
noncomputable def s42B0raw (g : Nat → Value) (d : List Deferred) : List Value → World → Option (Exit × List Value × World)
  | [x0, x1, x5, x14], w =>
    (Xnext Tryd.prog x14 true 0 w).bind fun r317 =>
    (Qext r317.1 0).bind fun v318 =>
    condK v318 (
      (Qext r317.1 1).bind fun v319 =>
      (Qext r317.1 2).bind fun v320 =>
      (Xcall Tryd.prog x0 #[v320] r317.2).bind fun r321 =>
      (Qbin Tryd.prog .eql 21 r321.1 v320).bind fun v322 =>
      (guardQ v322 true (Qbin Tryd.prog .neq 21 (gv (isB v322 true) v320) (Value.int .i32 65533))).bind fun v323 =>
      (Qpick v322 v323 (Value.bool false)).bind fun v324 =>
      condK v324 (
        some (Exit.normal, [x0, x1, x5, x14], r321.2)
      ) (
        (Qbin Tryd.prog .eql 21 v320 (Value.int .i32 65533)).bind fun v325 =>
        condK v325 (
          (Qslice Tryd.prog 9 x1 (some v319) none none r321.2).bind fun v326 =>
          (Xcall Tryd.prog (Value.func (Fn.func 55) #[] #[]) #[v326] r321.2).bind fun r327 =>
          (Qext r327.1 0).bind fun v328 =>
          (Qext r327.1 1).bind fun v329 =>
          (Qbin Tryd.prog .neq 3 v329 (Value.int .i64 1)).bind fun v330 =>
          (guardQ v330 true (Qbin Tryd.prog .eql 21 (gv (isB v330 true) r321.1) (gv (isB v330 true) v328))).bind fun v331 =>
          (Qpick v330 v331 (Value.bool false)).bind fun v332 =>
          condK v332 (
            some (Exit.normal, [x0, x1, x5, x14], r327.2)
          ) (
            s42J1 [x0, x1, g 2,g 3,g 4, x5, v319, v328, r321.1, v329, g 10,g 11,g 12,g 13, x14, r317.1, v318, v319, v320, x0, v320, r321.1, r321.1, v320, v322, v322, (gv (isB v322 true) v320), v323, v324, v320, v325, r327.1, x1, v319, v326, r327.1, v328, v329, v329, v330, v330, (gv (isB v330 true) r321.1), (gv (isB v330 true) v328), v331, v332, g 45,g 46,g 47,g 48,g 49,g 50,g 51,g 52,g 53,g 54,g 55,g 56,g 57,g 58,g 59,g 60,g 61,g 62,g 63,g 64,g 65,g 66,g 67,g 68,g 69,g 70,g 71,g 72,g 73,g 74,g 75,g 76,g 77,g 78,g 79,g 80,g 81,g 82,g 83,g 84] d r327.2
          )
        ) (
          (Xcall Tryd.prog (Value.func (Fn.func 56) #[] #[]) #[v320] r321.2).bind fun r333 =>
          s42J1 [x0, x1, g 2,g 3,g 4, x5, v319, v320, r321.1, r333.1, g 10,g 11,g 12,g 13, x14, r317.1, v318, v319, v320, x0, v320, r321.1, r321.1, v320, v322, v322, (gv (isB v322 true) v320), v323, v324, v320, v325, g 31,g 32,g 33,g 34,g 35,g 36,g 37,g 38,g 39,g 40,g 41,g 42,g 43,g 44, v320, r333.1, g 47,g 48,g 49,g 50,g 51,g 52,g 53,g 54,g 55,g 56,g 57,g 58,g 59,g 60,g 61,g 62,g 63,g 64,g 65,g 66,g 67,g 68,g 69,g 70,g 71,g 72,g 73,g 74,g 75,g 76,g 77,g 78,g 79,g 80,g 81,g 82,g 83,g 84] d r333.2
        )
      )
    ) (
      some ((Exit.exit 0), [x0, x1, x5, x14], r317.2)
    )
  | _, _ => none
noncomputable def s42B0 : List Value → World → Option (Exit × List Value × World)
  | [x0, x1, x5, x14], w =>
    (Xnext Tryd.prog x14 true 0 w).bind fun r317 =>
    (Qext r317.1 0).bind fun v318 =>
    condK v318 (
      (Qext r317.1 1).bind fun v319 =>
      (Qext r317.1 2).bind fun v320 =>
      (Xcall Tryd.prog x0 #[v320] r317.2).bind fun r321 =>
      (Qbin Tryd.prog .eql 21 r321.1 v320).bind fun v322 =>
      (guardQ v322 true (Qbin Tryd.prog .neq 21 (gv (isB v322 true) v320) (Value.int .i32 65533))).bind fun v323 =>
      (Qpick v322 v323 (Value.bool false)).bind fun v324 =>
      condK v324 (
        some (Exit.normal, [x0, x1, x5, x14], r321.2)
      ) (
        (Qbin Tryd.prog .eql 21 v320 (Value.int .i32 65533)).bind fun v325 =>
        condK v325 (
          (Qslice Tryd.prog 9 x1 (some v319) none none r321.2).bind fun v326 =>
          (Xcall Tryd.prog (Value.func (Fn.func 55) #[] #[]) #[v326] r321.2).bind fun r327 =>
          (Qext r327.1 0).bind fun v328 =>
          (Qext r327.1 1).bind fun v329 =>
          (Qbin Tryd.prog .neq 3 v329 (Value.int .i64 1)).bind fun v330 =>
          (guardQ v330 true (Qbin Tryd.prog .eql 21 (gv (isB v330 true) r321.1) (gv (isB v330 true) v328))).bind fun v331 =>
          (Qpick v330 v331 (Value.bool false)).bind fun v332 =>
          condK v332 (
            some (Exit.normal, [x0, x1, x5, x14], r327.2)
          ) (
            s42M1 x0 x1 x5 v319 r321.1 v329 x14 r327.2
          )
        ) (
          (Xcall Tryd.prog (Value.func (Fn.func 56) #[] #[]) #[v320] r321.2).bind fun r333 =>
          s42M1 x0 x1 x5 v319 r321.1 r333.1 x14 r333.2
        )
      )
    ) (
      some ((Exit.exit 0), [x0, x1, x5, x14], r317.2)
    )
  | _, _ => none
noncomputable def s42R0 : Exit → List Value → World → Option (Value × World)
  | (Exit.exit 0), [x0, x1, x5, _], w =>
    (Xcall Tryd.prog (Value.func (Fn.func 60) #[] #[]) #[x5] w).bind fun r334 =>
    (Qbin Tryd.prog .eql 3 r334.1 (Value.int .i64 0)).bind fun v335 =>
    condK v335 (
      some (x1, r334.2)
    ) (
      (Xrange Tryd.prog 9 x1 r334.2).bind fun r336 =>
      loopR s42B2 s42R2 [x0, x5, r336.1] r336.2
    )
  | _, _, _ => none
noncomputable def s42R0x0raw (x0 x1 x5 x14 : Value) (g : Nat → Value) (w : World) : Option (Value × World) :=
  (Xcall Tryd.prog (Value.func (Fn.func 60) #[] #[]) #[x5] w).bind fun r334 =>
  (Qbin Tryd.prog .eql 3 r334.1 (Value.int .i64 0)).bind fun v335 =>
  condK v335 (
    some (x1, r334.2)
  ) (
    (Xrange Tryd.prog 9 x1 r334.2).bind fun r336 =>
    s42L2 [x0, x1, g 2,g 3,g 4, x5, g 6,g 7,g 8,g 9,g 10,g 11,g 12,g 13, x14, g 15,g 16,g 17,g 18,g 19,g 20,g 21,g 22,g 23,g 24,g 25,g 26,g 27,g 28,g 29,g 30,g 31,g 32,g 33,g 34,g 35,g 36,g 37,g 38,g 39,g 40,g 41,g 42,g 43,g 44,g 45,g 46,g 47,g 48,g 49,g 50,g 51,g 52,g 53,g 54,g 55,g 56,g 57,g 58,g 59,g 60,g 61,g 62,g 63, r334.1, v335, g 66, x1, r336.1, g 69,g 70,g 71,g 72,g 73,g 74,g 75,g 76,g 77,g 78,g 79,g 80,g 81,g 82,g 83,g 84] [] r336.2
  )
noncomputable def s42raw (x0 x1 : Value) (w : World) : Option (Value × World) :=
  (Xalloc Tryd.prog 114 w).bind fun r315 =>
  (Xrange Tryd.prog 9 x1 r315.2).bind fun r316 =>
  s42L0 [x0, x1, undef, undef, (Value.string { data := #[] }), r315.1, undef, undef, undef, undef, undef, undef, undef, x1, r316.1, undef, undef, undef, undef, undef, undef, undef, undef, undef, undef, undef, undef, undef, undef, undef, undef, undef, undef, undef, undef, undef, undef, undef, undef, undef, undef, undef, undef, undef, undef, undef, undef, undef, undef, undef, undef, undef, undef, undef, undef, undef, undef, undef, undef, undef, undef, undef, undef, undef, undef, undef, undef, undef, undef, undef, undef, undef, undef, undef, undef, undef, undef, undef, undef, undef, undef, undef, undef, undef, undef] [] r316.2
noncomputable def s42 (x0 x1 : Value) (w : World) : Option (Value × World) :=
  (Xalloc Tryd.prog 114 w).bind fun r315 =>
  (Xrange Tryd.prog 9 x1 r315.2).bind fun r316 =>
  loopR s42B0 s42R0 [x0, x1, r315.1, r316.1] r316.2
theorem s42B2eq (x0 x5 x68 : Value) (w : World) (g : Nat → Value) (d : List Deferred) : evK Tryd.prog 42 none (nav [1, 1, 1, 1, 0, 1, 0, 0] (bodyOf Tryd.f42)) none _ (frm 85 (setL [0, 5, 68] [x0, x5, x68] g) d) w (projK [0, 5, 68]) = s42B2 [x0, x5, x68] w := by kernel_rfl
theorem s42R2x2eq (x0 x5 x68 : Value) (g : Nat → Value) (w : World) : s42K5 (Exit.exit 2) (frm 85 (setL [0, 5, 68] [x0, x5, x68] g) []) w = s42R2 (Exit.exit 2) [x0, x5, x68] w := by kernel_rfl
theorem s42R2of : ∀ (e : Exit) (xs : List Value) (w : World) (g : Nat → Value) (y : _), s42R2 e xs w = some y → s42K5 e (frm 85 (setL [0, 5, 68] xs g) []) w = some y := by
  intro e xs w g y h
  unfold s42R2 at h
  split at h
  · exact (s42R2x2eq _ _ _ g _).trans h
  · cases h
set_option maxRecDepth 20000 in
theorem s42L2of {aA aB aC aD aE aF aG aH aI aJ aK aL aM aN aO aP aQ aR aS aT aU aV aW aX aY aZ bA bB bC bD bE bF bG bH bI bJ bK bL bM bN bO bP bQ bR bS bT bU bV bW bX bY bZ cA cB cC cD cE cF cG cH cI cJ cK cL cM cN cO cP cQ cR cS cT cU cV cW cX cY cZ dA dB dC dD dE dF dG : Value} {w : World} {r : _} (h : loopR s42B2 s42R2 [aA,aF,cQ] w = some r) : s42L2 [aA,aB,aC,aD,aE,aF,aG,aH,aI,aJ,aK,aL,aM,aN,aO,aP,aQ,aR,aS,aT,aU,aV,aW,aX,aY,aZ,bA,bB,bC,bD,bE,bF,bG,bH,bI,bJ,bK,bL,bM,bN,bO,bP,bQ,bR,bS,bT,bU,bV,bW,bX,bY,bZ,cA,cB,cC,cD,cE,cF,cG,cH,cI,cJ,cK,cL,cM,cN,cO,cP,cQ,cR,cS,cT,cU,cV,cW,cX,cY,cZ,dA,dB,dC,dD,dE,dF,dG] [] w = some r :=
  loopN_of (B := s42B2) (R := s42R2) (n := 85) (live := [0, 5, 68]) (fun xs w g y hl h => match xs, hl, h with | [x0, x5, x68], _, h => (s42B2eq x0 x5 x68 w g []).trans h) (by kernel_rfl) (s42R2of) (fun i => ([aA,aB,aC,aD,aE,aF,aG,aH,aI,aJ,aK,aL,aM,aN,aO,aP,aQ,aR,aS,aT,aU,aV,aW,aX,aY,aZ,bA,bB,bC,bD,bE,bF,bG,bH,bI,bJ,bK,bL,bM,bN,bO,bP,bQ,bR,bS,bT,bU,bV,bW,bX,bY,bZ,cA,cB,cC,cD,cE,cF,cG,cH,cI,cJ,cK,cL,cM,cN,cO,cP,cQ,cR,cS,cT,cU,cV,cW,cX,cY,cZ,dA,dB,dC,dD,dE,dF,dG] : List Value).getD i undef) (by kernel_rfl) rfl h
set_option maxRecDepth 100000 in
theorem s42J1eq (aA aB aC aD aE aF aG aH aI aJ aK aL aM aN aO aP aQ aR aS aT aU aV aW aX aY aZ bA bB bC bD bE bF bG bH bI bJ bK bL bM bN bO bP bQ bR bS bT bU bV bW bX bY bZ cA cB cC cD cE cF cG cH cI cJ cK cL cM cN cO cP cQ cR cS cT cU cV cW cX cY cZ dA dB dC dD dE dF dG : Value) (w : World) : s42J1 [aA,aB,aC,aD,aE,aF,aG,aH,aI,aJ,aK,aL,aM,aN,aO,aP,aQ,aR,aS,aT,aU,aV,aW,aX,aY,aZ,bA,bB,bC,bD,bE,bF,bG,bH,bI,bJ,bK,bL,bM,bN,bO,bP,bQ,bR,bS,bT,bU,bV,bW,bX,bY,bZ,cA,cB,cC,cD,cE,cF,cG,cH,cI,cJ,cK,cL,cM,cN,cO,cP,cQ,cR,cS,cT,cU,cV,cW,cX,cY,cZ,dA,dB,dC,dD,dE,dF,dG] [] w = s42M1 aA aB aF aG aI aJ aO w := (show s42J1 [aA,aB,aC,aD,aE,aF,aG,aH,aI,aJ,aK,aL,aM,aN,aO,aP,aQ,aR,aS,aT,aU,aV,aW,aX,aY,aZ,bA,bB,bC,bD,bE,bF,bG,bH,bI,bJ,bK,bL,bM,bN,bO,bP,bQ,bR,bS,bT,bU,bV,bW,bX,bY,bZ,cA,cB,cC,cD,cE,cF,cG,cH,cI,cJ,cK,cL,cM,cN,cO,cP,cQ,cR,cS,cT,cU,cV,cW,cX,cY,cZ,dA,dB,dC,dD,dE,dF,dG] [] w = evK Tryd.prog 42 none (nav [1, 1, 0, 1, 0, 0, 1, 1, 0, 1, 1, 1, 1, 1] (bodyOf Tryd.f42)) none _ ⟨[aA,aB,aC,aD,aE,aF,aG,aH,aI,aJ,aK,aL,aM,aN,aO,aP,aQ,aR,aS,aT,aU,aV,aW,aX,aY,aZ,bA,bB,bC,bD,bE,bF,bG,bH,bI,bJ,bK,bL,bM,bN,bO,bP,bQ,bR,bS,bT,bU,bV,bW,bX,bY,bZ,cA,cB,cC,cD,cE,cF,cG,cH,cI,cJ,cK,cL,cM,cN,cO,cP,cQ,cR,cS,cT,cU,cV,cW,cX,cY,cZ,dA,dB,dC,dD,dE,dF,dG].toArray, []⟩ w s42K2 from by kernel_rfl).trans (by kernel_rfl)
set_option maxRecDepth 100000 in
theorem s42J1of {aA aB aC aD aE aF aG aH aI aJ aK aL aM aN aO aP aQ aR aS aT aU aV aW aX aY aZ bA bB bC bD bE bF bG bH bI bJ bK bL bM bN bO bP bQ bR bS bT bU bV bW bX bY bZ cA cB cC cD cE cF cG cH cI cJ cK cL cM cN cO cP cQ cR cS cT cU cV cW cX cY cZ dA dB dC dD dE dF dG : Value} {w : World} {r : _} (h : s42M1 aA aB aF aG aI aJ aO w = some r) : s42J1 [aA,aB,aC,aD,aE,aF,aG,aH,aI,aJ,aK,aL,aM,aN,aO,aP,aQ,aR,aS,aT,aU,aV,aW,aX,aY,aZ,bA,bB,bC,bD,bE,bF,bG,bH,bI,bJ,bK,bL,bM,bN,bO,bP,bQ,bR,bS,bT,bU,bV,bW,bX,bY,bZ,cA,cB,cC,cD,cE,cF,cG,cH,cI,cJ,cK,cL,cM,cN,cO,cP,cQ,cR,cS,cT,cU,cV,cW,cX,cY,cZ,dA,dB,dC,dD,dE,dF,dG] [] w = some r :=
  ((s42J1eq aA aB aC aD aE aF aG aH aI aJ aK aL aM aN aO aP aQ aR aS aT aU aV aW aX aY aZ bA bB bC bD bE bF bG bH bI bJ bK bL bM bN bO bP bQ bR bS bT bU bV bW bX bY bZ cA cB cC cD cE cF cG cH cI cJ cK cL cM cN cO cP cQ cR cS cT cU cV cW cX cY cZ dA dB dC dD dE dF dG w).trans h)
theorem s42B0eq (x0 x1 x5 x14 : Value) (w : World) (g : Nat → Value) (d : List Deferred) : evK Tryd.prog 42 none (nav [1, 1, 0, 1, 0, 0] (bodyOf Tryd.f42)) none _ (frm 85 (setL [0, 1, 5, 14] [x0, x1, x5, x14] g) d) w (projK [0, 1, 5, 14]) = s42B0raw g d [x0, x1, x5, x14] w := by kernel_rfl
theorem s42R0x0eq (x0 x1 x5 x14 : Value) (g : Nat → Value) (w : World) : s42K1 (Exit.exit 0) (frm 85 (setL [0, 1, 5, 14] [x0, x1, x5, x14] g) []) w = s42R0x0raw x0 x1 x5 x14 g w := by kernel_rfl
theorem s42R0of : ∀ (e : Exit) (xs : List Value) (w : World) (g : Nat → Value) (y : _), s42R0 e xs w = some y → s42K1 e (frm 85 (setL [0, 1, 5, 14] xs g) []) w = some y := by
  intro e xs w g y h
  unfold s42R0 at h
  split at h
  · exact (s42R0x0eq _ _ _ _ g _).trans ((Ev.bind_mono fun (r334 : Value × World) => (Ev.bind_mono fun (v335 : Value) => (condK_mono id (Ev.bind_mono fun (r336 : Value × World) => (s42L2of))))) h)
  · cases h
set_option maxRecDepth 20000 in
theorem s42L0of {aA aB aC aD aE aF aG aH aI aJ aK aL aM aN aO aP aQ aR aS aT aU aV aW aX aY aZ bA bB bC bD bE bF bG bH bI bJ bK bL bM bN bO bP bQ bR bS bT bU bV bW bX bY bZ cA cB cC cD cE cF cG cH cI cJ cK cL cM cN cO cP cQ cR cS cT cU cV cW cX cY cZ dA dB dC dD dE dF dG : Value} {w : World} {r : _} (h : loopR s42B0 s42R0 [aA,aB,aF,aO] w = some r) : s42L0 [aA,aB,aC,aD,aE,aF,aG,aH,aI,aJ,aK,aL,aM,aN,aO,aP,aQ,aR,aS,aT,aU,aV,aW,aX,aY,aZ,bA,bB,bC,bD,bE,bF,bG,bH,bI,bJ,bK,bL,bM,bN,bO,bP,bQ,bR,bS,bT,bU,bV,bW,bX,bY,bZ,cA,cB,cC,cD,cE,cF,cG,cH,cI,cJ,cK,cL,cM,cN,cO,cP,cQ,cR,cS,cT,cU,cV,cW,cX,cY,cZ,dA,dB,dC,dD,dE,dF,dG] [] w = some r :=
  loopN_of (B := s42B0) (R := s42R0) (n := 85) (live := [0, 1, 5, 14]) (fun xs w g y hl h => match xs, hl, h with | [x0, x1, x5, x14], _, h => (s42B0eq x0 x1 x5 x14 w g []).trans (show s42B0raw g [] [x0, x1, x5, x14] w = some y from (Ev.bind_mono fun (r317 : Value × World) => (Ev.bind_mono fun (v318 : Value) => (condK_mono (Ev.bind_mono fun (v319 : Value) => (Ev.bind_mono fun (v320 : Value) => (Ev.bind_mono fun (r321 : Value × World) => (Ev.bind_mono fun (v322 : Value) => (Ev.bind_mono fun (v323 : Value) => (Ev.bind_mono fun (v324 : Value) => (condK_mono id (Ev.bind_mono fun (v325 : Value) => (condK_mono (Ev.bind_mono fun (v326 : Value) => (Ev.bind_mono fun (r327 : Value × World) => (Ev.bind_mono fun (v328 : Value) => (Ev.bind_mono fun (v329 : Value) => (Ev.bind_mono fun (v330 : Value) => (Ev.bind_mono fun (v331 : Value) => (Ev.bind_mono fun (v332 : Value) => (condK_mono id (s42J1of))))))))) (Ev.bind_mono fun (r333 : Value × World) => (s42J1of))))))))))) id))) h)) (by kernel_rfl) (s42R0of) (fun i => ([aA,aB,aC,aD,aE,aF,aG,aH,aI,aJ,aK,aL,aM,aN,aO,aP,aQ,aR,aS,aT,aU,aV,aW,aX,aY,aZ,bA,bB,bC,bD,bE,bF,bG,bH,bI,bJ,bK,bL,bM,bN,bO,bP,bQ,bR,bS,bT,bU,bV,bW,bX,bY,bZ,cA,cB,cC,cD,cE,cF,cG,cH,cI,cJ,cK,cL,cM,cN,cO,cP,cQ,cR,cS,cT,cU,cV,cW,cX,cY,cZ,dA,dB,dC,dD,dE,dF,dG] : List Value).getD i undef) (by kernel_rfl) rfl h
theorem s42eq (x0 x1 : Value) (w : World) : evK Tryd.prog 42 none (bodyOf Tryd.f42) none _ { tmps := (([x0, x1] : List Value) ++ List.replicate (85 - 2) undef).toArray, defers := [] } w (leaveK Tryd.prog Tryd.f42) = s42raw x0 x1 w := by kernel_rfl
set_option maxRecDepth 100000 in
theorem c42 {x0 x1 : Value} {w : World} {r : Value × World} (h : s42 x0 x1 w = some r) : C Tryd.prog 42 #[x0, x1] w = some r :=
  C_ev follows_all drawLaw (by kernel_rfl) Tryd.func42 (by rfl) ((s42eq x0 x1 w).trans (show s42raw x0 x1 w = some r from (Ev.bind_mono fun (r315 : Value × World) => (Ev.bind_mono fun (r316 : Value × World) => (s42L0of))) h))
theorem e42 {x0 x1 : Value} {w : World} {Q : Value × World → Prop} (h : Brings (s42 x0 x1 w) Q) : Brings (Xcall Tryd.prog (Value.func (Fn.func 42) #[] #[]) #[x0, x1] w) Q :=
  h.call (Xcall_fn Tryd.func42 (by decide +kernel) (by rfl) _ _ _ w) fun _ h => c42 h

/-! (*lychgate/ftp.reader).eat$1 -/
noncomputable def s43 (x0 : Value) (w : World) : Option (Value × World) :=
  (Qbin Tryd.prog .geq 21 x0 (Value.int .i32 97)).bind fun v358 =>
  (guardQ v358 true (Qbin Tryd.prog .leq 21 (gv (isB v358 true) x0) (Value.int .i32 122))).bind fun v359 =>
  (Qpick v358 v359 (Value.bool false)).bind fun v360 =>
  condK v360 (
    (Qbin Tryd.prog .sub 21 x0 (Value.int .i32 97)).bind fun v361 =>
    (Qbin Tryd.prog .add 21 v361 (Value.int .i32 65)).bind fun v362 =>
    some (v362, w)
  ) (
    some (x0, w)
  )
theorem s43eq (x0 : Value) (w : World) : evK Tryd.prog 43 none (bodyOf Tryd.f43) none _ { tmps := (([x0] : List Value) ++ List.replicate (13 - 1) undef).toArray, defers := [] } w (leaveK Tryd.prog Tryd.f43) = s43 x0 w := by kernel_rfl
theorem c43 {x0 : Value} {w : World} {r : Value × World} (h : s43 x0 w = some r) : C Tryd.prog 43 #[x0] w = some r :=
  C_ev follows_all drawLaw (by kernel_rfl) Tryd.func43 (by rfl) ((s43eq x0 w).trans h)
theorem e43 {x0 : Value} {w : World} {Q : Value × World → Prop} (h : Brings (s43 x0 w) Q) : Brings (Xcall Tryd.prog (Value.func (Fn.func 43) #[] #[]) #[x0] w) Q :=
  h.call (Xcall_fn Tryd.func43 (by decide +kernel) (by rfl) _ _ _ w) fun _ h => c43 h

/-! (*strings.Builder).Grow -/
noncomputable def s57K0 : Exit → Act → World → Option (Value × World) := seqK (fun a w => evK Tryd.prog 57 none (nav [1, 1] (bodyOf Tryd.f57)) none _ a w (leaveK Tryd.prog Tryd.f57)) (leaveK Tryd.prog Tryd.f57)
noncomputable def s57J0 (s : List Value) (d : List Deferred) (w : World) : Option (Value × World) := s57K0 .normal ⟨s.toArray, d⟩ w
noncomputable def s57M0 (s0 s1 : Value) (w : World) : Option (Value × World) :=
  (Qnil s0).bind fun v365 =>
  (QfieldAddr Tryd.prog 114 v365 1).bind fun v366 =>
  (Qload Tryd.prog 22 v366 w.drew).bind fun v367 =>
  (Qcap Tryd.prog #[22] 3 #[v367] w.drew).bind fun v368 =>
  (Qnil s0).bind fun v369 =>
  (QfieldAddr Tryd.prog 114 v369 1).bind fun v370 =>
  (Qload Tryd.prog 22 v370 w.drew).bind fun v371 =>
  (Qlen Tryd.prog #[22] 3 #[v371] w.drew).bind fun v372 =>
  (Qbin Tryd.prog .sub 3 v368 v372).bind fun v373 =>
  (Qbin Tryd.prog .lss 3 v373 s1).bind fun v374 =>
  chkK True (
    condK v374 (
      (Xcall Tryd.prog (Value.func (Fn.func 78) #[] #[]) #[s0, s1] w.drew).bind fun r375 =>
      some ((Value.tuple #[]), r375.2)
    ) (
      some ((Value.tuple #[]), w.drew)
    )
  )
noncomputable def s57raw (x0 x1 : Value) (w : World) : Option (Value × World) :=
  (Xcall Tryd.prog (Value.func (Fn.func 77) #[] #[]) #[x0] w).bind fun r363 =>
  (Qbin Tryd.prog .lss 3 x1 (Value.int .i64 0)).bind fun v364 =>
  condK v364 (
    evK Tryd.prog 57 none (nav [1, 0, 1, 0] (bodyOf Tryd.f57)) none _ ⟨[x0, x1, undef, undef, x0, r363.1, x1, v364, undef, undef, undef, undef, undef, undef, undef, undef, undef, undef, undef, undef, undef, undef, undef, undef, undef].toArray, []⟩ r363.2 s57K0
  ) (
    s57J0 [x0, x1, undef, undef, x0, r363.1, x1, v364, undef, undef, undef, undef, undef, undef, undef, undef, undef, undef, undef, undef, undef, undef, undef, undef, undef] [] r363.2
  )
noncomputable def s57 (x0 x1 : Value) (w : World) : Option (Value × World) :=
  (Xcall Tryd.prog (Value.func (Fn.func 77) #[] #[]) #[x0] w).bind fun r363 =>
  (Qbin Tryd.prog .lss 3 x1 (Value.int .i64 0)).bind fun v364 =>
  condK v364 (
    none
  ) (
    s57M0 x0 x1 r363.2
  )
theorem s57J0eq (aA aB aC aD aE aF aG aH aI aJ aK aL aM aN aO aP aQ aR aS aT aU aV aW aX aY : Value) (w : World) : s57J0 [aA,aB,aC,aD,aE,aF,aG,aH,aI,aJ,aK,aL,aM,aN,aO,aP,aQ,aR,aS,aT,aU,aV,aW,aX,aY] [] w = s57M0 aA aB w := (show s57J0 [aA,aB,aC,aD,aE,aF,aG,aH,aI,aJ,aK,aL,aM,aN,aO,aP,aQ,aR,aS,aT,aU,aV,aW,aX,aY] [] w = evK Tryd.prog 57 none (nav [1, 1] (bodyOf Tryd.f57)) none _ ⟨[aA,aB,aC,aD,aE,aF,aG,aH,aI,aJ,aK,aL,aM,aN,aO,aP,aQ,aR,aS,aT,aU,aV,aW,aX,aY].toArray, []⟩ w (leaveK Tryd.prog Tryd.f57) from by kernel_rfl).trans (by kernel_rfl)
theorem s57J0of {aA aB aC aD aE aF aG aH aI aJ aK aL aM aN aO aP aQ aR aS aT aU aV aW aX aY : Value} {w : World} {r : _} (h : s57M0 aA aB w = some r) : s57J0 [aA,aB,aC,aD,aE,aF,aG,aH,aI,aJ,aK,aL,aM,aN,aO,aP,aQ,aR,aS,aT,aU,aV,aW,aX,aY] [] w = some r :=
  ((s57J0eq aA aB aC aD aE aF aG aH aI aJ aK aL aM aN aO aP aQ aR aS aT aU aV aW aX aY w).trans h)
theorem s57eq (x0 x1 : Value) (w : World) : evK Tryd.prog 57 none (bodyOf Tryd.f57) none _ { tmps := (([x0, x1] : List Value) ++ List.replicate (25 - 2) undef).toArray, defers := [] } w (leaveK Tryd.prog Tryd.f57) = s57raw x0 x1 w := by kernel_rfl
theorem c57 {x0 x1 : Value} {w : World} {r : Value × World} (h : s57 x0 x1 w = some r) : C Tryd.prog 57 #[x0, x1] w = some r :=
  C_ev follows_all drawLaw (by kernel_rfl) Tryd.func57 (by rfl) ((s57eq x0 x1 w).trans (show s57raw x0 x1 w = some r from (Ev.bind_mono fun (r363 : Value × World) => (Ev.bind_mono fun (v364 : Value) => (condK_mono (fun h => by cases h) (s57J0of)))) h))
theorem e57 {x0 x1 : Value} {w : World} {Q : Value × World → Prop} (h : Brings (s57 x0 x1 w) Q) : Brings (Xcall Tryd.prog (Value.func (Fn.func 57) #[] #[]) #[x0, x1] w) Q :=
  h.call (Xcall_fn Tryd.func57 (by decide +kernel) (by rfl) _ _ _ w) fun _ h => c57 h

/-! (*strings.Builder).WriteString -/
noncomputable def s58 (x0 x1 : Value) (w : World) : Option (Value × World) :=
  (Xcall Tryd.prog (Value.func (Fn.func 77) #[] #[]) #[x0] w).bind fun r376 =>
  (Qnil x0).bind fun v377 =>
  (QfieldAddr Tryd.prog 114 v377 1).bind fun v378 =>
  (Qload Tryd.prog 22 v378 r376.2).bind fun v379 =>
  (Xbi Tryd.prog Go.Builtin.append #[22, 9] 22 #[v379, x1] r376.2).bind fun r380 =>
  (Qnil x0).bind fun v381 =>
  (QfieldAddr Tryd.prog 114 v381 1).bind fun v382 =>
  (Xstore Tryd.prog 22 v382 r380.1 r380.2).bind fun r383 =>
  (Qlen Tryd.prog #[9] 3 #[x1] r383.2).bind fun v384 =>
  some ((Value.tuple #[v384, Value.nilIface]), r383.2)
theorem s58eq (x0 x1 : Value) (w : World) : evK Tryd.prog 58 none (bodyOf Tryd.f58) none _ { tmps := (([x0, x1] : List Value) ++ List.replicate (19 - 2) undef).toArray, defers := [] } w (leaveK Tryd.prog Tryd.f58) = s58 x0 x1 w := by kernel_rfl
theorem c58 {x0 x1 : Value} {w : World} {r : Value × World} (h : s58 x0 x1 w = some r) : C Tryd.prog 58 #[x0, x1] w = some r :=
  C_ev follows_all drawLaw (by kernel_rfl) Tryd.func58 (by rfl) ((s58eq x0 x1 w).trans h)
theorem e58 {x0 x1 : Value} {w : World} {Q : Value × World → Prop} (h : Brings (s58 x0 x1 w) Q) : Brings (Xcall Tryd.prog (Value.func (Fn.func 58) #[] #[]) #[x0, x1] w) Q :=
  h.call (Xcall_fn Tryd.func58 (by decide +kernel) (by rfl) _ _ _ w) fun _ h => c58 h

/-! (*strings.Builder).WriteRune -/
noncomputable def s59 (x0 x1 : Value) (w : World) : Option (Value × World) :=
  (Xcall Tryd.prog (Value.func (Fn.func 77) #[] #[]) #[x0] w).bind fun r385 =>
  (Qnil x0).bind fun v386 =>
  (QfieldAddr Tryd.prog 114 v386 1).bind fun v387 =>
  (Qload Tryd.prog 22 v387 r385.2).bind fun v388 =>
  (Qlen Tryd.prog #[22] 3 #[v388] r385.2).bind fun v389 =>
  (Qnil x0).bind fun v390 =>
  (QfieldAddr Tryd.prog 114 v390 1).bind fun v391 =>
  (Qload Tryd.prog 22 v391 r385.2).bind fun v392 =>
  (Xcall Tryd.prog (Value.func (Fn.func 79) #[] #[]) #[v392, x1] r385.2).bind fun r393 =>
  (Qnil x0).bind fun v394 =>
  (QfieldAddr Tryd.prog 114 v394 1).bind fun v395 =>
  (Xstore Tryd.prog 22 v395 r393.1 r393.2).bind fun r396 =>
  (Qnil x0).bind fun v397 =>
  (QfieldAddr Tryd.prog 114 v397 1).bind fun v398 =>
  (Qload Tryd.prog 22 v398 r396.2).bind fun v399 =>
  (Qlen Tryd.prog #[22] 3 #[v399] r396.2).bind fun v400 =>
  (Qbin Tryd.prog .sub 3 v400 v389).bind fun v401 =>
  some ((Value.tuple #[v401, Value.nilIface]), r396.2)
theorem s59eq (x0 x1 : Value) (w : World) : evK Tryd.prog 59 none (bodyOf Tryd.f59) none _ { tmps := (([x0, x1] : List Value) ++ List.replicate (30 - 2) undef).toArray, defers := [] } w (leaveK Tryd.prog Tryd.f59) = s59 x0 x1 w := by kernel_rfl
theorem c59 {x0 x1 : Value} {w : World} {r : Value × World} (h : s59 x0 x1 w = some r) : C Tryd.prog 59 #[x0, x1] w = some r :=
  C_ev follows_all drawLaw (by kernel_rfl) Tryd.func59 (by rfl) ((s59eq x0 x1 w).trans h)
theorem e59 {x0 x1 : Value} {w : World} {Q : Value × World → Prop} (h : Brings (s59 x0 x1 w) Q) : Brings (Xcall Tryd.prog (Value.func (Fn.func 59) #[] #[]) #[x0, x1] w) Q :=
  h.call (Xcall_fn Tryd.func59 (by decide +kernel) (by rfl) _ _ _ w) fun _ h => c59 h

/-! (*strings.Builder).Cap -/
noncomputable def s60 (x0 : Value) (w : World) : Option (Value × World) :=
  (Qnil x0).bind fun v402 =>
  (QfieldAddr Tryd.prog 114 v402 1).bind fun v403 =>
  (Qload Tryd.prog 22 v403 w).bind fun v404 =>
  (Qcap Tryd.prog #[22] 3 #[v404] w).bind fun v405 =>
  some (v405, w)
theorem s60eq (x0 : Value) (w : World) : evK Tryd.prog 60 none (bodyOf Tryd.f60) none _ { tmps := (([x0] : List Value) ++ List.replicate (8 - 1) undef).toArray, defers := [] } w (leaveK Tryd.prog Tryd.f60) = s60 x0 w := by kernel_rfl
theorem c60 {x0 : Value} {w : World} {r : Value × World} (h : s60 x0 w = some r) : C Tryd.prog 60 #[x0] w = some r :=
  C_ev follows_all drawLaw (by kernel_rfl) Tryd.func60 (by rfl) ((s60eq x0 w).trans h)
theorem e60 {x0 : Value} {w : World} {Q : Value × World → Prop} (h : Brings (s60 x0 w) Q) : Brings (Xcall Tryd.prog (Value.func (Fn.func 60) #[] #[]) #[x0] w) Q :=
  h.call (Xcall_fn Tryd.func60 (by decide +kernel) (by rfl) _ _ _ w) fun _ h => c60 h

/-! (*strings.Builder).WriteByte -/
noncomputable def s61 (x0 x1 : Value) (w : World) : Option (Value × World) :=
  (Xcall Tryd.prog (Value.func (Fn.func 77) #[] #[]) #[x0] w).bind fun r406 =>
  (Qnil x0).bind fun v407 =>
  (QfieldAddr Tryd.prog 114 v407 1).bind fun v408 =>
  (Qload Tryd.prog 22 v408 r406.2).bind fun v409 =>
  (XbuildSlice Tryd.prog 22 1 #[(0, x1)] r406.2).bind fun r410 =>
  (Xbi Tryd.prog Go.Builtin.append #[22, 22] 22 #[v409, r410.1] r410.2).bind fun r411 =>
  (Qnil x0).bind fun v412 =>
  (QfieldAddr Tryd.prog 114 v412 1).bind fun v413 =>
  (Xstore Tryd.prog 22 v413 r411.1 r411.2).bind fun r414 =>
  some (Value.nilIface, r414.2)
theorem s61eq (x0 x1 : Value) (w : World) : evK Tryd.prog 61 none (bodyOf Tryd.f61) none _ { tmps := (([x0, x1] : List Value) ++ List.replicate (17 - 2) undef).toArray, defers := [] } w (leaveK Tryd.prog Tryd.f61) = s61 x0 x1 w := by kernel_rfl
theorem c61 {x0 x1 : Value} {w : World} {r : Value × World} (h : s61 x0 x1 w = some r) : C Tryd.prog 61 #[x0, x1] w = some r :=
  C_ev follows_all drawLaw (by kernel_rfl) Tryd.func61 (by rfl) ((s61eq x0 x1 w).trans h)
theorem e61 {x0 x1 : Value} {w : World} {Q : Value × World → Prop} (h : Brings (s61 x0 x1 w) Q) : Brings (Xcall Tryd.prog (Value.func (Fn.func 61) #[] #[]) #[x0, x1] w) Q :=
  h.call (Xcall_fn Tryd.func61 (by decide +kernel) (by rfl) _ _ _ w) fun _ h => c61 h

/-! (*strings.Builder).String -/
noncomputable def s62 (x0 : Value) (w : World) : Option (Value × World) :=
  (Qnil x0).bind fun v415 =>
  (QfieldAddr Tryd.prog 114 v415 1).bind fun v416 =>
  (Qload Tryd.prog 22 v416 w.drew).bind fun v417 =>
  (Xbi Tryd.prog Go.Builtin.unsafeSliceData #[22] 136 #[v417] w.drew).bind fun r418 =>
  (Qnil x0).bind fun v419 =>
  (QfieldAddr Tryd.prog 114 v419 1).bind fun v420 =>
  (Qload Tryd.prog 22 v420 r418.2).bind fun v421 =>
  (Qlen Tryd.prog #[22] 3 #[v421] r418.2).bind fun v422 =>
  (Xbi Tryd.prog Go.Builtin.unsafeString #[136, 3] 9 #[r418.1, v422] r418.2).bind fun r423 =>
  chkK ((Qload Tryd.prog 22 v420 w.drew = some v421 ∧ Qload Tryd.prog 22 v420 r418.2 = some v421) ∧ ((Qlen Tryd.prog #[22] 3 #[v421] w.drew = some v422 ∧ Qlen Tryd.prog #[22] 3 #[v421] r418.2 = some v422) ∧ True)) (
    some (r423.1, r423.2)
  )
theorem s62eq (x0 : Value) (w : World) : evK Tryd.prog 62 none (bodyOf Tryd.f62) none _ { tmps := (([x0] : List Value) ++ List.replicate (14 - 1) undef).toArray, defers := [] } w (leaveK Tryd.prog Tryd.f62) = s62 x0 w := by kernel_rfl
theorem c62 {x0 : Value} {w : World} {r : Value × World} (h : s62 x0 w = some r) : C Tryd.prog 62 #[x0] w = some r :=
  C_ev follows_all drawLaw (by kernel_rfl) Tryd.func62 (by rfl) ((s62eq x0 w).trans h)
theorem e62 {x0 : Value} {w : World} {Q : Value × World → Prop} (h : Brings (s62 x0 w) Q) : Brings (Xcall Tryd.prog (Value.func (Fn.func 62) #[] #[]) #[x0] w) Q :=
  h.call (Xcall_fn Tryd.func62 (by decide +kernel) (by rfl) _ _ _ w) fun _ h => c62 h

/-! (*strings.Builder).copyCheck -/
noncomputable def s77 (x0 : Value) (w : World) : Option (Value × World) :=
  (Qnil x0).bind fun v424 =>
  (QfieldAddr Tryd.prog 114 v424 0).bind fun v425 =>
  (Qload Tryd.prog 112 v425 w).bind fun v426 =>
  (Qbin Tryd.prog .eql 112 v426 (Value.pointer none)).bind fun v427 =>
  condK v427 (
    (Xconv Tryd.prog 112 157 x0 w).bind fun r428 =>
    (Xcall Tryd.prog (Value.func (Fn.func 94) #[] #[]) #[r428.1] r428.2).bind fun r429 =>
    (Xconv Tryd.prog 157 112 r429.1 r429.2).bind fun r430 =>
    (Qnil x0).bind fun v431 =>
    (QfieldAddr Tryd.prog 114 v431 0).bind fun v432 =>
    (Xstore Tryd.prog 112 v432 r430.1 r430.2).bind fun r433 =>
    some ((Value.tuple #[]), r433.2)
  ) (
    (Qnil x0).bind fun v434 =>
    (QfieldAddr Tryd.prog 114 v434 0).bind fun v435 =>
    (Qload Tryd.prog 112 v435 w).bind fun v436 =>
    (Qbin Tryd.prog .neq 112 v436 x0).bind fun v437 =>
    condK v437 (
      none
    ) (
      some ((Value.tuple #[]), w)
    )
  )
theorem s77eq (x0 : Value) (w : World) : evK Tryd.prog 77 none (bodyOf Tryd.f77) none _ { tmps := (([x0] : List Value) ++ List.replicate (20 - 1) undef).toArray, defers := [] } w (leaveK Tryd.prog Tryd.f77) = s77 x0 w := by kernel_rfl
theorem c77 {x0 : Value} {w : World} {r : Value × World} (h : s77 x0 w = some r) : C Tryd.prog 77 #[x0] w = some r :=
  C_ev follows_all drawLaw (by kernel_rfl) Tryd.func77 (by rfl) ((s77eq x0 w).trans h)
theorem e77 {x0 : Value} {w : World} {Q : Value × World → Prop} (h : Brings (s77 x0 w) Q) : Brings (Xcall Tryd.prog (Value.func (Fn.func 77) #[] #[]) #[x0] w) Q :=
  h.call (Xcall_fn Tryd.func77 (by decide +kernel) (by rfl) _ _ _ w) fun _ h => c77 h

/-! (*strings.Builder).grow -/
noncomputable def s78 (x0 x1 : Value) (w : World) : Option (Value × World) :=
  (Qnil x0).bind fun v438 =>
  (QfieldAddr Tryd.prog 114 v438 1).bind fun v439 =>
  (Qload Tryd.prog 22 v439 w.drew).bind fun v440 =>
  (Qcap Tryd.prog #[22] 3 #[v440] w.drew).bind fun v441 =>
  (Qbin Tryd.prog .mul 3 (Value.int .i64 2) v441).bind fun v442 =>
  (Qbin Tryd.prog .add 3 v442 x1).bind fun v443 =>
  (Xcall Tryd.prog (Value.func (Fn.func 95) #[] #[]) #[v443] w.drew).bind fun r444 =>
  (Qnil x0).bind fun v445 =>
  (QfieldAddr Tryd.prog 114 v445 1).bind fun v446 =>
  (Qload Tryd.prog 22 v446 r444.2).bind fun v447 =>
  (Qlen Tryd.prog #[22] 3 #[v447] r444.2).bind fun v448 =>
  (Qslice Tryd.prog 22 r444.1 none (some v448) none r444.2).bind fun v449 =>
  chkK ((Qload Tryd.prog 22 v446 w.drew = some v447 ∧ Qload Tryd.prog 22 v446 r444.2 = some v447) ∧ ((Qlen Tryd.prog #[22] 3 #[v447] w.drew = some v448 ∧ Qlen Tryd.prog #[22] 3 #[v447] r444.2 = some v448) ∧ True)) (
    (Qnil x0).bind fun v450 =>
    (QfieldAddr Tryd.prog 114 v450 1).bind fun v451 =>
    (Qload Tryd.prog 22 v451 r444.2).bind fun v452 =>
    (Xbi Tryd.prog Go.Builtin.copy #[22, 22] 3 #[v449, v452] r444.2).bind fun r453 =>
    (Qnil x0).bind fun v454 =>
    (QfieldAddr Tryd.prog 114 v454 1).bind fun v455 =>
    (Xstore Tryd.prog 22 v455 v449 r453.2).bind fun r456 =>
    some ((Value.tuple #[]), r456.2)
  )
theorem s78eq (x0 x1 : Value) (w : World) : evK Tryd.prog 78 none (bodyOf Tryd.f78) none _ { tmps := (([x0, x1] : List Value) ++ List.replicate (30 - 2) undef).toArray, defers := [] } w (leaveK Tryd.prog Tryd.f78) = s78 x0 x1 w := by kernel_rfl
theorem c78 {x0 x1 : Value} {w : World} {r : Value × World} (h : s78 x0 x1 w = some r) : C Tryd.prog 78 #[x0, x1] w = some r :=
  C_ev follows_all drawLaw (by kernel_rfl) Tryd.func78 (by rfl) ((s78eq x0 x1 w).trans h)
theorem e78 {x0 x1 : Value} {w : World} {Q : Value × World → Prop} (h : Brings (s78 x0 x1 w) Q) : Brings (Xcall Tryd.prog (Value.func (Fn.func 78) #[] #[]) #[x0, x1] w) Q :=
  h.call (Xcall_fn Tryd.func78 (by decide +kernel) (by rfl) _ _ _ w) fun _ h => c78 h

/-! unicode/utf8.AppendRune -/
noncomputable def s79 (x0 x1 : Value) (w : World) : Option (Value × World) :=
  (Qconv Tryd.prog 21 24 x1).bind fun v457 =>
  (Qbin Tryd.prog .leq 24 v457 (Value.int .u32 127)).bind fun v458 =>
  condK v458 (
    (Qconv Tryd.prog 21 5 x1).bind fun v459 =>
    (XbuildSlice Tryd.prog 22 1 #[(0, v459)] w).bind fun r460 =>
    (Xbi Tryd.prog Go.Builtin.append #[22, 22] 22 #[x0, r460.1] r460.2).bind fun r461 =>
    some (r461.1, r461.2)
  ) (
    (Xcall Tryd.prog (Value.func (Fn.func 96) #[] #[]) #[x0, x1] w).bind fun r462 =>
    some (r462.1, r462.2)
  )
theorem s79eq (x0 x1 : Value) (w : World) : evK Tryd.prog 79 none (bodyOf Tryd.f79) none _ { tmps := (([x0, x1] : List Value) ++ List.replicate (16 - 2) undef).toArray, defers := [] } w (leaveK Tryd.prog Tryd.f79) = s79 x0 x1 w := by kernel_rfl
theorem c79 {x0 x1 : Value} {w : World} {r : Value × World} (h : s79 x0 x1 w = some r) : C Tryd.prog 79 #[x0, x1] w = some r :=
  C_ev follows_all drawLaw (by kernel_rfl) Tryd.func79 (by rfl) ((s79eq x0 x1 w).trans h)
theorem e79 {x0 x1 : Value} {w : World} {Q : Value × World → Prop} (h : Brings (s79 x0 x1 w) Q) : Brings (Xcall Tryd.prog (Value.func (Fn.func 79) #[] #[]) #[x0, x1] w) Q :=
  h.call (Xcall_fn Tryd.func79 (by decide +kernel) (by rfl) _ _ _ w) fun _ h => c79 h

/-! unicode/utf8.appendRuneNonASCII -/
noncomputable def s96K0 : Exit → Act → World → Option (Value × World) := blockK 0 (leaveK Tryd.prog Tryd.f96)
noncomputable def s96K1 : Exit → Act → World → Option (Value × World) := seqK (fun a w => evK Tryd.prog 96 none (nav [1, 1, 0, 1, 1, 1] (bodyOf Tryd.f96)) none _ a w s96K0) s96K0
noncomputable def s96J0 (s : List Value) (d : List Deferred) (w : World) : Option (Value × World) := s96K1 .normal ⟨s.toArray, d⟩ w
noncomputable def s96M0 (s0 s1 s5 s25 : Value) (w : World) : Option (Value × World) :=
  condK s25 (
    (Qbin Tryd.prog .shr 21 s1 (Value.int .u64 12)).bind fun v477 =>
    (Qconv Tryd.prog 21 5 v477).bind fun v478 =>
    (Qbin Tryd.prog .or 5 (Value.int .u8 224) v478).bind fun v479 =>
    (Qbin Tryd.prog .shr 21 s1 (Value.int .u64 6)).bind fun v480 =>
    (Qconv Tryd.prog 21 5 v480).bind fun v481 =>
    (Qbin Tryd.prog .and 5 v481 (Value.int .u8 63)).bind fun v482 =>
    (Qbin Tryd.prog .or 5 (Value.int .u8 128) v482).bind fun v483 =>
    (Qconv Tryd.prog 21 5 s1).bind fun v484 =>
    (Qbin Tryd.prog .and 5 v484 (Value.int .u8 63)).bind fun v485 =>
    (Qbin Tryd.prog .or 5 (Value.int .u8 128) v485).bind fun v486 =>
    (XbuildSlice Tryd.prog 22 3 #[(0, v479), (1, v483), (2, v486)] w).bind fun r487 =>
    (Xbi Tryd.prog Go.Builtin.append #[22, 22] 22 #[s0, r487.1] r487.2).bind fun r488 =>
    some (r488.1, r488.2)
  ) (
    (Qbin Tryd.prog .gtr 24 s5 (Value.int .u32 65535)).bind fun v489 =>
    (guardQ v489 true (Qbin Tryd.prog .leq 24 (gv (isB v489 true) s5) (Value.int .u32 1114111))).bind fun v490 =>
    (Qpick v489 v490 (Value.bool false)).bind fun v491 =>
    condK v491 (
      (Qbin Tryd.prog .shr 21 s1 (Value.int .u64 18)).bind fun v492 =>
      (Qconv Tryd.prog 21 5 v492).bind fun v493 =>
      (Qbin Tryd.prog .or 5 (Value.int .u8 240) v493).bind fun v494 =>
      (Qbin Tryd.prog .shr 21 s1 (Value.int .u64 12)).bind fun v495 =>
      (Qconv Tryd.prog 21 5 v495).bind fun v496 =>
      (Qbin Tryd.prog .and 5 v496 (Value.int .u8 63)).bind fun v497 =>
      (Qbin Tryd.prog .or 5 (Value.int .u8 128) v497).bind fun v498 =>
      (Qbin Tryd.prog .shr 21 s1 (Value.int .u64 6)).bind fun v499 =>
      (Qconv Tryd.prog 21 5 v499).bind fun v500 =>
      (Qbin Tryd.prog .and 5 v500 (Value.int .u8 63)).bind fun v501 =>
      (Qbin Tryd.prog .or 5 (Value.int .u8 128) v501).bind fun v502 =>
      (Qconv Tryd.prog 21 5 s1).bind fun v503 =>
      (Qbin Tryd.prog .and 5 v503 (Value.int .u8 63)).bind fun v504 =>
      (Qbin Tryd.prog .or 5 (Value.int .u8 128) v504).bind fun v505 =>
      (XbuildSlice Tryd.prog 22 4 #[(0, v494), (1, v498), (2, v502), (3, v505)] w).bind fun r506 =>
      (Xbi Tryd.prog Go.Builtin.append #[22, 22] 22 #[s0, r506.1] r506.2).bind fun r507 =>
      some (r507.1, r507.2)
    ) (
      (XbuildSlice Tryd.prog 22 3 #[(0, (Value.int .u8 239)), (1, (Value.int .u8 191)), (2, (Value.int .u8 189))] w).bind fun r508 =>
      (Xbi Tryd.prog Go.Builtin.append #[22, 22] 22 #[s0, r508.1] r508.2).bind fun r509 =>
      some (r509.1, r509.2)
    )
  )
noncomputable def s96raw (x0 x1 : Value) (w : World) : Option (Value × World) :=
  (Qconv Tryd.prog 21 24 x1).bind fun v463 =>
  (Qbin Tryd.prog .leq 24 v463 (Value.int .u32 2047)).bind fun v464 =>
  condK v464 (
    (Qbin Tryd.prog .shr 21 x1 (Value.int .u64 6)).bind fun v465 =>
    (Qconv Tryd.prog 21 5 v465).bind fun v466 =>
    (Qbin Tryd.prog .or 5 (Value.int .u8 192) v466).bind fun v467 =>
    (Qconv Tryd.prog 21 5 x1).bind fun v468 =>
    (Qbin Tryd.prog .and 5 v468 (Value.int .u8 63)).bind fun v469 =>
    (Qbin Tryd.prog .or 5 (Value.int .u8 128) v469).bind fun v470 =>
    (XbuildSlice Tryd.prog 22 2 #[(0, v467), (1, v470)] w).bind fun r471 =>
    (Xbi Tryd.prog Go.Builtin.append #[22, 22] 22 #[x0, r471.1] r471.2).bind fun r472 =>
    some (r472.1, r472.2)
  ) (
    (Qbin Tryd.prog .lss 24 v463 (Value.int .u32 55296)).bind fun v473 =>
    condK v473 (
      s96J0 [x0, x1, undef, undef, (Value.slice none 0 0), v463, x1, v463, undef, undef, undef, v464, v463, v464, undef, undef, undef, undef, undef, undef, undef, undef, undef, undef, undef, v473, v463, v473, undef, undef, undef, undef, undef, undef, undef, undef, undef, undef, undef, undef, undef, undef, undef, undef, undef, undef, undef, undef, undef, undef, undef, undef, undef, undef, undef, undef, undef, undef, undef, undef, undef, undef, undef, undef, undef, undef, undef, undef, undef, undef, undef, undef, undef, undef, undef, undef, undef, undef] [] w
    ) (
      (Qbin Tryd.prog .lss 24 (Value.int .u32 57343) v463).bind fun v474 =>
      (guardQ v474 true (Qbin Tryd.prog .leq 24 (gv (isB v474 true) v463) (Value.int .u32 65535))).bind fun v475 =>
      (Qpick v474 v475 (Value.bool false)).bind fun v476 =>
      s96J0 [x0, x1, undef, undef, (Value.slice none 0 0), v463, x1, v463, undef, undef, undef, v464, v463, v464, undef, undef, undef, undef, undef, undef, undef, undef, undef, undef, undef, v476, v463, v473, v463, v474, v474, (gv (isB v474 true) v463), v475, v476, undef, undef, undef, undef, undef, undef, undef, undef, undef, undef, undef, undef, undef, undef, undef, undef, undef, undef, undef, undef, undef, undef, undef, undef, undef, undef, undef, undef, undef, undef, undef, undef, undef, undef, undef, undef, undef, undef, undef, undef, undef, undef, undef, undef] [] w
    )
  )
noncomputable def s96 (x0 x1 : Value) (w : World) : Option (Value × World) :=
  (Qconv Tryd.prog 21 24 x1).bind fun v463 =>
  (Qbin Tryd.prog .leq 24 v463 (Value.int .u32 2047)).bind fun v464 =>
  condK v464 (
    (Qbin Tryd.prog .shr 21 x1 (Value.int .u64 6)).bind fun v465 =>
    (Qconv Tryd.prog 21 5 v465).bind fun v466 =>
    (Qbin Tryd.prog .or 5 (Value.int .u8 192) v466).bind fun v467 =>
    (Qconv Tryd.prog 21 5 x1).bind fun v468 =>
    (Qbin Tryd.prog .and 5 v468 (Value.int .u8 63)).bind fun v469 =>
    (Qbin Tryd.prog .or 5 (Value.int .u8 128) v469).bind fun v470 =>
    (XbuildSlice Tryd.prog 22 2 #[(0, v467), (1, v470)] w).bind fun r471 =>
    (Xbi Tryd.prog Go.Builtin.append #[22, 22] 22 #[x0, r471.1] r471.2).bind fun r472 =>
    some (r472.1, r472.2)
  ) (
    (Qbin Tryd.prog .lss 24 v463 (Value.int .u32 55296)).bind fun v473 =>
    condK v473 (
      s96M0 x0 x1 v463 v473 w
    ) (
      (Qbin Tryd.prog .lss 24 (Value.int .u32 57343) v463).bind fun v474 =>
      (guardQ v474 true (Qbin Tryd.prog .leq 24 (gv (isB v474 true) v463) (Value.int .u32 65535))).bind fun v475 =>
      (Qpick v474 v475 (Value.bool false)).bind fun v476 =>
      s96M0 x0 x1 v463 v476 w
    )
  )
set_option maxRecDepth 100000 in
theorem s96J0eq (aA aB aC aD aE aF aG aH aI aJ aK aL aM aN aO aP aQ aR aS aT aU aV aW aX aY aZ bA bB bC bD bE bF bG bH bI bJ bK bL bM bN bO bP bQ bR bS bT bU bV bW bX bY bZ cA cB cC cD cE cF cG cH cI cJ cK cL cM cN cO cP cQ cR cS cT cU cV cW cX cY cZ : Value) (w : World) : s96J0 [aA,aB,aC,aD,aE,aF,aG,aH,aI,aJ,aK,aL,aM,aN,aO,aP,aQ,aR,aS,aT,aU,aV,aW,aX,aY,aZ,bA,bB,bC,bD,bE,bF,bG,bH,bI,bJ,bK,bL,bM,bN,bO,bP,bQ,bR,bS,bT,bU,bV,bW,bX,bY,bZ,cA,cB,cC,cD,cE,cF,cG,cH,cI,cJ,cK,cL,cM,cN,cO,cP,cQ,cR,cS,cT,cU,cV,cW,cX,cY,cZ] [] w = s96M0 aA aB aF aZ w := (show s96J0 [aA,aB,aC,aD,aE,aF,aG,aH,aI,aJ,aK,aL,aM,aN,aO,aP,aQ,aR,aS,aT,aU,aV,aW,aX,aY,aZ,bA,bB,bC,bD,bE,bF,bG,bH,bI,bJ,bK,bL,bM,bN,bO,bP,bQ,bR,bS,bT,bU,bV,bW,bX,bY,bZ,cA,cB,cC,cD,cE,cF,cG,cH,cI,cJ,cK,cL,cM,cN,cO,cP,cQ,cR,cS,cT,cU,cV,cW,cX,cY,cZ] [] w = evK Tryd.prog 96 none (nav [1, 1, 0, 1, 1, 1] (bodyOf Tryd.f96)) none _ ⟨[aA,aB,aC,aD,aE,aF,aG,aH,aI,aJ,aK,aL,aM,aN,aO,aP,aQ,aR,aS,aT,aU,aV,aW,aX,aY,aZ,bA,bB,bC,bD,bE,bF,bG,bH,bI,bJ,bK,bL,bM,bN,bO,bP,bQ,bR,bS,bT,bU,bV,bW,bX,bY,bZ,cA,cB,cC,cD,cE,cF,cG,cH,cI,cJ,cK,cL,cM,cN,cO,cP,cQ,cR,cS,cT,cU,cV,cW,cX,cY,cZ].toArray, []⟩ w s96K0 from by kernel_rfl).trans (by kernel_rfl)
set_option maxRecDepth 100000 in
theorem s96J0of {aA aB aC aD aE aF aG aH aI aJ aK aL aM aN aO aP aQ aR aS aT aU aV aW aX aY aZ bA bB bC bD bE bF bG bH bI bJ bK bL bM bN bO bP bQ bR bS bT bU bV bW bX bY bZ cA cB cC cD cE cF cG cH cI cJ cK cL cM cN cO cP cQ cR cS cT cU cV cW cX cY cZ : Value} {w : World} {r : _} (h : s96M0 aA aB aF aZ w = some r) : s96J0 [aA,aB,aC,aD,aE,aF,aG,aH,aI,aJ,aK,aL,aM,aN,aO,aP,aQ,aR,aS,aT,aU,aV,aW,aX,aY,aZ,bA,bB,bC,bD,bE,bF,bG,bH,bI,bJ,bK,bL,bM,bN,bO,bP,bQ,bR,bS,bT,bU,bV,bW,bX,bY,bZ,cA,cB,cC,cD,cE,cF,cG,cH,cI,cJ,cK,cL,cM,cN,cO,cP,cQ,cR,cS,cT,cU,cV,cW,cX,cY,cZ] [] w = some r :=
  ((s96J0eq aA aB aC aD aE aF aG aH aI aJ aK aL aM aN aO aP aQ aR aS aT aU aV aW aX aY aZ bA bB bC bD bE bF bG bH bI bJ bK bL bM bN bO bP bQ bR bS bT bU bV bW bX bY bZ cA cB cC cD cE cF cG cH cI cJ cK cL cM cN cO cP cQ cR cS cT cU cV cW cX cY cZ w).trans h)
theorem s96eq (x0 x1 : Value) (w : World) : evK Tryd.prog 96 none (bodyOf Tryd.f96) none _ { tmps := (([x0, x1] : List Value) ++ List.replicate (78 - 2) undef).toArray, defers := [] } w (leaveK Tryd.prog Tryd.f96) = s96raw x0 x1 w := by kernel_rfl
set_option maxRecDepth 100000 in
theorem c96 {x0 x1 : Value} {w : World} {r : Value × World} (h : s96 x0 x1 w = some r) : C Tryd.prog 96 #[x0, x1] w = some r :=
  C_ev follows_all drawLaw (by kernel_rfl) Tryd.func96 (by rfl) ((s96eq x0 x1 w).trans (show s96raw x0 x1 w = some r from (Ev.bind_mono fun (v463 : Value) => (Ev.bind_mono fun (v464 : Value) => (condK_mono id (Ev.bind_mono fun (v473 : Value) => (condK_mono (s96J0of) (Ev.bind_mono fun (v474 : Value) => (Ev.bind_mono fun (v475 : Value) => (Ev.bind_mono fun (v476 : Value) => (s96J0of))))))))) h))
theorem e96 {x0 x1 : Value} {w : World} {Q : Value × World → Prop} (h : Brings (s96 x0 x1 w) Q) : Brings (Xcall Tryd.prog (Value.func (Fn.func 96) #[] #[]) #[x0, x1] w) Q :=
  h.call (Xcall_fn Tryd.func96 (by decide +kernel) (by rfl) _ _ _ w) fun _ h => c96 h

/-! strconv.Atoi -/
noncomputable def s44 (x0 : Value) (w : World) : Option (Value × World) :=
  (Xcall Tryd.prog (Value.func (Fn.func 63) #[] #[]) #[x0] w).bind fun r510 =>
  (Qext r510.1 0).bind fun v511 =>
  (Qext r510.1 1).bind fun v512 =>
  (QbinN Tryd.prog .neq 95 v512).bind fun v513 =>
  condK v513 (
    (Xcall Tryd.prog (Value.func (Fn.func 64) #[] #[]) #[(Value.string { data := #[65, 116, 111, 105] }), x0, (Value.int .i64 0), (Value.int .i64 0), v512] r510.2).bind fun r514 =>
    some ((Value.tuple #[v511, r514.1]), r514.2)
  ) (
    some ((Value.tuple #[v511, Value.nilIface]), r510.2)
  )
theorem s44eq (x0 : Value) (w : World) : evK Tryd.prog 44 none (bodyOf Tryd.f44) none _ { tmps := (([x0] : List Value) ++ List.replicate (18 - 1) undef).toArray, defers := [] } w (leaveK Tryd.prog Tryd.f44) = s44 x0 w := by kernel_rfl
theorem c44 {x0 : Value} {w : World} {r : Value × World} (h : s44 x0 w = some r) : C Tryd.prog 44 #[x0] w = some r :=
  C_ev follows_all drawLaw (by kernel_rfl) Tryd.func44 (by rfl) ((s44eq x0 w).trans h)
theorem e44 {x0 : Value} {w : World} {Q : Value × World → Prop} (h : Brings (s44 x0 w) Q) : Brings (Xcall Tryd.prog (Value.func (Fn.func 44) #[] #[]) #[x0] w) Q :=
  h.call (Xcall_fn Tryd.func44 (by decide +kernel) (by rfl) _ _ _ w) fun _ h => c44 h

end Go.Proofs.YtphokckbcmiddaaDoor
