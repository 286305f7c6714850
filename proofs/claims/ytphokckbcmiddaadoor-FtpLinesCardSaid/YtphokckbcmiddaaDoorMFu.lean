/- The functions of the program, by their texts. -/
import Derived.Test.YtphokckbcmiddaaDoorMFn
/- The functions of the program, by their texts. -/
namespace Go.Proofs.YtphokckbcmiddaaDoor
open Go Go.Ev
open Go.Proofs
/-! internal/strconv.ParseUint -/
noncomputable def s97K0 : Exit → Act → World → Option (Value × World) := seqK (fun a w => evK Tryd.prog 97 none (nav [1, 1, 1, 1, 1] (bodyOf Tryd.f97)) none _ a w (leaveK Tryd.prog Tryd.f97)) (leaveK Tryd.prog Tryd.f97)
noncomputable def s97K1 : Exit → Act → World → Option (Value × World) := blockK 0 s97K0
noncomputable def s97J0 (s : List Value) (d : List Deferred) (w : World) : Option (Value × World) := s97K1 .normal ⟨s.toArray, d⟩ w
noncomputable def s97K2 : Exit → Act → World → Option (Value × World) := seqK (fun a w => evK Tryd.prog 97 none (nav [1, 1, 1, 1, 1, 1] (bodyOf Tryd.f97)) none _ a w (leaveK Tryd.prog Tryd.f97)) (leaveK Tryd.prog Tryd.f97)
noncomputable def s97J1 (s : List Value) (d : List Deferred) (w : World) : Option (Value × World) := s97K2 .normal ⟨s.toArray, d⟩ w
noncomputable def s97K3 : Exit → Act → World → Option (Value × World) := seqK (fun a w => evK Tryd.prog 97 none (nav [1, 1, 1, 1, 1, 1, 1, 1] (bodyOf Tryd.f97)) none _ a w (leaveK Tryd.prog Tryd.f97)) (leaveK Tryd.prog Tryd.f97)
noncomputable def s97K4 : Exit → Act → World → Option (Value × World) := blockK 2 s97K3
noncomputable def s97J2 (s : List Value) (d : List Deferred) (w : World) : Option (Value × World) := s97K4 .normal ⟨s.toArray, d⟩ w
noncomputable def s97K5 : Exit → Act → World → Option (Value × World) := seqK (fun a w => evK Tryd.prog 97 none (nav [1, 1, 1, 1, 1, 1, 1, 1, 1, 1, 1, 1] (bodyOf Tryd.f97)) none _ a w (leaveK Tryd.prog Tryd.f97)) (leaveK Tryd.prog Tryd.f97)
noncomputable def s97K6 : Exit → Act → World → Option (Value × World) := blockK 3 s97K5
noncomputable def s97L3 (s : List Value) (d : List Deferred) (w : World) : Option (Value × World) := loopN Tryd.prog 97 none (nav [1, 1, 1, 1, 1, 1, 1, 1, 1, 1, 1, 0, 1, 0, 0] (bodyOf Tryd.f97)) s97K6 s d w
noncomputable def s97K7 : Exit → Act → World → Option (Exit × List Value × World) := seqK (fun a w => evK Tryd.prog 97 none (nav [1, 1, 1, 1, 1, 1, 1, 1, 1, 1, 1, 0, 1, 0, 0, 1, 1, 1] (bodyOf Tryd.f97)) none _ a w (projK [1, 6, 7, 8, 9, 10, 11, 12, 13, 99, 100, 101])) (projK [1, 6, 7, 8, 9, 10, 11, 12, 13, 99, 100, 101])
noncomputable def s97K8 : Exit → Act → World → Option (Exit × List Value × World) := blockK 4 s97K7
noncomputable def s97K9 : Exit → Act → World → Option (Exit × List Value × World) := seqK (fun a w => evK Tryd.prog 97 none (nav [1, 1, 1, 1, 1, 1, 1, 1, 1, 1, 1, 0, 1, 0, 0, 1, 1, 0, 0, 1, 1, 1] (bodyOf Tryd.f97)) none _ a w s97K8) s97K8
noncomputable def s97K10 : Exit → Act → World → Option (Exit × List Value × World) := blockK 5 s97K9
noncomputable def s97J4 (s : List Value) (d : List Deferred) (w : World) : Option (Exit × List Value × World) := s97K10 .normal ⟨s.toArray, d⟩ w
noncomputable def s97M4 (aA aB aC aD aE aF aG aH aI aJ aK aL aM : Value) (w : World) : Option (Exit × List Value × World) :=
  (Qconv Tryd.prog 3 5 aA).bind fun v71 =>
  (Qbin Tryd.prog .geq 5 aJ v71).bind fun v72 =>
  condK v72 (
    (Qiface Tryd.prog 137 (Value.int .i64 2)).bind fun v73 =>
    some (Exit.ret, [aA, (Value.int .u64 0), v73, aD,aE,aF,aG,aH,aI,aK,aL,aM], w)
  ) (
    (Qbin Tryd.prog .geq 63 aI aF).bind fun v74 =>
    condK v74 (
      (Qiface Tryd.prog 137 (Value.int .i64 1)).bind fun v75 =>
      some (Exit.ret, [aA,aG, v75, aD,aE,aF,aG,aH,aI,aK,aL,aM], w)
    ) (
      (Qconv Tryd.prog 3 63 aA).bind fun v76 =>
      (Qbin Tryd.prog .mul 63 aI v76).bind fun v77 =>
      (Qconv Tryd.prog 5 63 aJ).bind fun v78 =>
      (Qbin Tryd.prog .add 63 v77 v78).bind fun v79 =>
      (Qbin Tryd.prog .lss 63 v79 v77).bind fun v80 =>
      (guardQ v80 false (Qbin Tryd.prog .gtr 63 (gv (isB v80 false) v79) (gv (isB v80 false) aG))).bind fun v81 =>
      (Qpick v80 (Value.bool true) v81).bind fun v82 =>
      condK v82 (
        (Qiface Tryd.prog 137 (Value.int .i64 1)).bind fun v83 =>
        some (Exit.ret, [aA,aG, v83, aD,aE,aF,aG,aH, v77, aK,aL,aM], w)
      ) (
        (Qbin Tryd.prog .add 3 aM (Value.int .i64 1)).bind fun v84 =>
        some (Exit.normal, [aA,aB,aC,aD,aE,aF,aG,aH, v79, aK,aL, v84], w)
      )
    )
  )
noncomputable def s97B3raw (g : Nat → Value) (d : List Deferred) : List Value → World → Option (Exit × List Value × World)
  | [x1, x6, x7, x8, x9, x10, x11, x12, x13, x99, x100, x101], w =>
    (Qbin Tryd.prog .lss 3 x101 x100).bind fun v48 =>
    condK v48 (
      (QindexAddr Tryd.prog 22 x99 x101 w).bind fun v49 =>
      (Qload Tryd.prog 5 v49 w).bind fun v50 =>
      (Qbin Tryd.prog .eql 5 v50 (Value.int .u8 95)).bind fun v51 =>
      (Qpick v51 (gv (isB v51 true) x8) (Value.bool false)).bind fun v52 =>
      condK v52 (
        (Qbin Tryd.prog .add 3 x101 (Value.int .i64 1)).bind fun v53 =>
        some (Exit.normal, [x1, x6, x7, x8, x9, x10, x11, (Value.bool true), x13, x99, x100, v53], w)
      ) (
        (Qbin Tryd.prog .leq 5 (Value.int .u8 48) v50).bind fun v54 =>
        (guardQ v54 true (Qbin Tryd.prog .leq 5 (gv (isB v54 true) v50) (Value.int .u8 57))).bind fun v55 =>
        (Qpick v54 v55 (Value.bool false)).bind fun v56 =>
        condK v56 (
          (Qbin Tryd.prog .sub 5 v50 (Value.int .u8 48)).bind fun v57 =>
          s97J4 [g 0, x1, g 2,g 3,g 4,g 5, x6, x7, x8, x9, x10, x11, x12, x13, g 14, v50, v57, g 17,g 18,g 19,g 20,g 21,g 22,g 23,g 24,g 25,g 26,g 27,g 28,g 29,g 30,g 31,g 32,g 33,g 34,g 35,g 36,g 37,g 38,g 39,g 40,g 41,g 42,g 43,g 44,g 45,g 46,g 47,g 48,g 49,g 50,g 51,g 52,g 53,g 54,g 55,g 56,g 57,g 58,g 59,g 60,g 61,g 62,g 63,g 64,g 65,g 66,g 67,g 68,g 69,g 70,g 71,g 72,g 73,g 74,g 75,g 76,g 77,g 78,g 79,g 80,g 81,g 82,g 83,g 84,g 85,g 86,g 87,g 88,g 89,g 90,g 91,g 92,g 93,g 94,g 95,g 96,g 97,g 98, x99, x100, x101, v48, v49, v50, g 105, v52, v50, v51, v51, (gv (isB v51 true) x8), v52, v56, v50, v54, v54, (gv (isB v54 true) v50), v55, v56, v50, v57, g 121,g 122,g 123,g 124,g 125,g 126,g 127,g 128,g 129,g 130,g 131,g 132,g 133,g 134,g 135,g 136,g 137,g 138,g 139,g 140,g 141,g 142,g 143,g 144,g 145,g 146,g 147,g 148,g 149,g 150,g 151,g 152,g 153,g 154,g 155,g 156,g 157,g 158,g 159,g 160,g 161,g 162,g 163,g 164,g 165,g 166,g 167,g 168,g 169,g 170,g 171] d w
        ) (
          (Xcall Tryd.prog (Value.func (Fn.func 106) #[] #[]) #[v50] w).bind fun r58 =>
          (Qbin Tryd.prog .leq 5 (Value.int .u8 97) r58.1).bind fun v59 =>
          (guardX v59 true r58.2 (Xcall Tryd.prog (Value.func (Fn.func 106) #[] #[]) #[(gv (isB v59 true) v50)] r58.2)).bind fun r60 =>
          (guardQ v59 true (Qbin Tryd.prog .leq 5 r60.1 (Value.int .u8 122))).bind fun v61 =>
          (Qpick v59 v61 (Value.bool false)).bind fun v62 =>
          condK v62 (
            (Xcall Tryd.prog (Value.func (Fn.func 106) #[] #[]) #[v50] r60.2).bind fun r63 =>
            (Qbin Tryd.prog .sub 5 r63.1 (Value.int .u8 97)).bind fun v64 =>
            (Qbin Tryd.prog .add 5 v64 (Value.int .u8 10)).bind fun v65 =>
            s97J4 [g 0, x1, g 2,g 3,g 4,g 5, x6, x7, x8, x9, x10, x11, x12, x13, g 14, v50, v65, g 17,g 18,g 19,g 20,g 21,g 22,g 23,g 24,g 25,g 26,g 27,g 28,g 29,g 30,g 31,g 32,g 33,g 34,g 35,g 36,g 37,g 38,g 39,g 40,g 41,g 42,g 43,g 44,g 45,g 46,g 47,g 48,g 49,g 50,g 51,g 52,g 53,g 54,g 55,g 56,g 57,g 58,g 59,g 60,g 61,g 62,g 63,g 64,g 65,g 66,g 67,g 68,g 69,g 70,g 71,g 72,g 73,g 74,g 75,g 76,g 77,g 78,g 79,g 80,g 81,g 82,g 83,g 84,g 85,g 86,g 87,g 88,g 89,g 90,g 91,g 92,g 93,g 94,g 95,g 96,g 97,g 98, x99, x100, x101, v48, v49, v50, g 105, v52, v50, v51, v51, (gv (isB v51 true) x8), v52, v56, v50, v54, v54, (gv (isB v54 true) v50), v55, v56, g 119,g 120, v62, v50, r58.1, v59, v59, (gv (isB v59 true) v50), r60.1, v61, v62, v50, r63.1, v64, v65, g 134,g 135,g 136,g 137,g 138,g 139,g 140,g 141,g 142,g 143,g 144,g 145,g 146,g 147,g 148,g 149,g 150,g 151,g 152,g 153,g 154,g 155,g 156,g 157,g 158,g 159,g 160,g 161,g 162,g 163,g 164,g 165,g 166,g 167,g 168,g 169,g 170,g 171] d r63.2
          ) (
            (Qiface Tryd.prog 137 (Value.int .i64 2)).bind fun v66 =>
            some (Exit.ret, [x1, (Value.int .u64 0), v66, x8, x9, x10, x11, x12, x13, x99, x100, x101], r60.2)
          )
        )
      )
    ) (
      some ((Exit.exit 3), [x1, x6, x7, x8, x9, x10, x11, x12, x13, x99, x100, x101], w)
    )
  | _, _ => none
noncomputable def s97B3 : List Value → World → Option (Exit × List Value × World)
  | [x1, x6, x7, x8, x9, x10, x11, x12, x13, x99, x100, x101], w =>
    (Qbin Tryd.prog .lss 3 x101 x100).bind fun v48 =>
    condK v48 (
      (QindexAddr Tryd.prog 22 x99 x101 w).bind fun v49 =>
      (Qload Tryd.prog 5 v49 w).bind fun v50 =>
      (Qbin Tryd.prog .eql 5 v50 (Value.int .u8 95)).bind fun v51 =>
      (Qpick v51 (gv (isB v51 true) x8) (Value.bool false)).bind fun v52 =>
      condK v52 (
        (Qbin Tryd.prog .add 3 x101 (Value.int .i64 1)).bind fun v53 =>
        some (Exit.normal, [x1, x6, x7, x8, x9, x10, x11, (Value.bool true), x13, x99, x100, v53], w)
      ) (
        (Qbin Tryd.prog .leq 5 (Value.int .u8 48) v50).bind fun v54 =>
        (guardQ v54 true (Qbin Tryd.prog .leq 5 (gv (isB v54 true) v50) (Value.int .u8 57))).bind fun v55 =>
        (Qpick v54 v55 (Value.bool false)).bind fun v56 =>
        condK v56 (
          (Qbin Tryd.prog .sub 5 v50 (Value.int .u8 48)).bind fun v57 =>
          s97M4 x1 x6 x7 x8 x9 x10 x11 x12 x13 v57 x99 x100 x101 w
        ) (
          (Xcall Tryd.prog (Value.func (Fn.func 106) #[] #[]) #[v50] w).bind fun r58 =>
          (Qbin Tryd.prog .leq 5 (Value.int .u8 97) r58.1).bind fun v59 =>
          (guardX v59 true r58.2 (Xcall Tryd.prog (Value.func (Fn.func 106) #[] #[]) #[(gv (isB v59 true) v50)] r58.2)).bind fun r60 =>
          (guardQ v59 true (Qbin Tryd.prog .leq 5 r60.1 (Value.int .u8 122))).bind fun v61 =>
          (Qpick v59 v61 (Value.bool false)).bind fun v62 =>
          condK v62 (
            (Xcall Tryd.prog (Value.func (Fn.func 106) #[] #[]) #[v50] r60.2).bind fun r63 =>
            (Qbin Tryd.prog .sub 5 r63.1 (Value.int .u8 97)).bind fun v64 =>
            (Qbin Tryd.prog .add 5 v64 (Value.int .u8 10)).bind fun v65 =>
            s97M4 x1 x6 x7 x8 x9 x10 x11 x12 x13 v65 x99 x100 x101 r63.2
          ) (
            (Qiface Tryd.prog 137 (Value.int .i64 2)).bind fun v66 =>
            some (Exit.ret, [x1, (Value.int .u64 0), v66, x8, x9, x10, x11, x12, x13, x99, x100, x101], r60.2)
          )
        )
      )
    ) (
      some ((Exit.exit 3), [x1, x6, x7, x8, x9, x10, x11, x12, x13, x99, x100, x101], w)
    )
  | _, _ => none
noncomputable def s97R3 : Exit → List Value → World → Option (Value × World)
  | (Exit.exit 3), [_, _, _, _, x9, _, _, x12, x13, _, _, _], w =>
    (guardX x12 true w (Xcall Tryd.prog (Value.func (Fn.func 107) #[] #[]) #[(gv (isB x12 true) x9)] w)).bind fun r67 =>
    (guardQ x12 true (Qun .not r67.1)).bind fun v68 =>
    (Qpick x12 v68 (Value.bool false)).bind fun v69 =>
    condK v69 (
      (Qiface Tryd.prog 137 (Value.int .i64 2)).bind fun v70 =>
      some ((Value.tuple #[(Value.int .u64 0), v70]), r67.2)
    ) (
      some ((Value.tuple #[x13, Value.nilIface]), r67.2)
    )
  | Exit.ret, [_, x6, x7, _, _, _, _, _, _, _, _, _], w =>
    some ((Value.tuple #[x6, x7]), w)
  | _, _, _ => none
noncomputable def s97M2raw (aA aB aC aD aE aF aG aH aI aJ aK _ _ _ aO aP aQ aR aS aT aU aV aW aX aY aZ bA bB bC bD bE bF bG bH bI bJ bK bL bM bN bO bP bQ bR bS bT bU bV bW bX bY bZ cA cB cC cD cE cF cG cH cI cJ cK cL cM cN cO cP cQ cR cS cT cU cV cW cX cY cZ dA dB dC dD dE dF dG dH dI dJ dK dL dM dN dO dP _ _ _ _ _ _ _ _ dY dZ eA eB eC eD eE eF eG eH eI eJ eK eL eM eN eO eP eQ eR eS eT eU eV eW eX eY eZ fA fB fC fD fE fF fG fH fI fJ fK fL fM fN fO fP fQ fR fS fT fU fV fW fX fY fZ gA gB gC gD gE gF gG gH gI gJ gK gL gM gN gO gP : Value) (w : World) : Option (Value × World) :=
  (Qconv Tryd.prog 3 77 aC).bind fun v43 =>
  (Qbin Tryd.prog .shl 63 (Value.int .u64 1) v43).bind fun v44 =>
  (Qbin Tryd.prog .sub 63 v44 (Value.int .u64 1)).bind fun v45 =>
  (Xconv Tryd.prog 9 22 aA w).bind fun r46 =>
  (Qlen Tryd.prog #[22] 3 #[r46.1] r46.2).bind fun v47 =>
  s97L3 [aA,aB,aC,aD,aE,aF,aG,aH,aI,aJ,aK, v45, (Value.bool false), (Value.int .u64 0), aO,aP,aQ,aR,aS,aT,aU,aV,aW,aX,aY,aZ,bA,bB,bC,bD,bE,bF,bG,bH,bI,bJ,bK,bL,bM,bN,bO,bP,bQ,bR,bS,bT,bU,bV,bW,bX,bY,bZ,cA,cB,cC,cD,cE,cF,cG,cH,cI,cJ,cK,cL,cM,cN,cO,cP,cQ,cR,cS,cT,cU,cV,cW,cX,cY,cZ,dA,dB,dC,dD,dE,dF,dG,dH,dI,dJ,dK,dL,dM,dN,dO,dP,aC, v43, v44, v45, aA, r46.1, v47, (Value.int .i64 0), dY,dZ,eA,eB,eC,eD,eE,eF,eG,eH,eI,eJ,eK,eL,eM,eN,eO,eP,eQ,eR,eS,eT,eU,eV,eW,eX,eY,eZ,fA,fB,fC,fD,fE,fF,fG,fH,fI,fJ,fK,fL,fM,fN,fO,fP,fQ,fR,fS,fT,fU,fV,fW,fX,fY,fZ,gA,gB,gC,gD,gE,gF,gG,gH,gI,gJ,gK,gL,gM,gN,gO,gP] [] r46.2
noncomputable def s97M2 (aA aB aC aD aE aF aG aH : Value) (w : World) : Option (Value × World) :=
  (Qconv Tryd.prog 3 77 aC).bind fun v43 =>
  (Qbin Tryd.prog .shl 63 (Value.int .u64 1) v43).bind fun v44 =>
  (Qbin Tryd.prog .sub 63 v44 (Value.int .u64 1)).bind fun v45 =>
  (Xconv Tryd.prog 9 22 aA w).bind fun r46 =>
  (Qlen Tryd.prog #[22] 3 #[r46.1] r46.2).bind fun v47 =>
  loopR s97B3 s97R3 [aB,aD,aE,aF,aG,aH, v45, (Value.bool false), (Value.int .u64 0), r46.1, v47, (Value.int .i64 0)] r46.2
noncomputable def s97M1raw (aA aB aC aD aE aF aG aH aI aJ _ aL aM aN aO aP aQ aR aS aT aU aV aW aX aY aZ bA bB bC bD bE bF bG bH bI bJ bK bL bM bN bO bP bQ bR bS bT bU bV bW bX bY bZ cA cB cC cD cE cF cG cH cI cJ cK cL cM cN cO cP cQ cR cS cT cU cV cW cX cY cZ dA dB dC dD dE dF dG _ dI dJ dK dL _ _ dO dP dQ dR dS dT dU dV dW dX dY dZ eA eB eC eD eE eF eG eH eI eJ eK eL eM eN eO eP eQ eR eS eT eU eV eW eX eY eZ fA fB fC fD fE fF fG fH fI fJ fK fL fM fN fO fP fQ fR fS fT fU fV fW fX fY fZ gA gB gC gD gE gF gG gH gI gJ gK gL gM gN gO gP : Value) (w : World) : Option (Value × World) :=
  (Qbin Tryd.prog .eql 3 aB (Value.int .i64 10)).bind fun v38 =>
  condK v38 (
    s97J2 [aA,aB,aC,aD,aE,aF,aG,aH,aI,aJ, (Value.int .u64 1844674407370955162), aL,aM,aN,aO,aP,aQ,aR,aS,aT,aU,aV,aW,aX,aY,aZ,bA,bB,bC,bD,bE,bF,bG,bH,bI,bJ,bK,bL,bM,bN,bO,bP,bQ,bR,bS,bT,bU,bV,bW,bX,bY,bZ,cA,cB,cC,cD,cE,cF,cG,cH,cI,cJ,cK,cL,cM,cN,cO,cP,cQ,cR,cS,cT,cU,cV,cW,cX,cY,cZ,dA,dB,dC,dD,dE,dF,dG,aB,dI,dJ,dK,dL, v38, v38, dO,dP,dQ,dR,dS,dT,dU,dV,dW,dX,dY,dZ,eA,eB,eC,eD,eE,eF,eG,eH,eI,eJ,eK,eL,eM,eN,eO,eP,eQ,eR,eS,eT,eU,eV,eW,eX,eY,eZ,fA,fB,fC,fD,fE,fF,fG,fH,fI,fJ,fK,fL,fM,fN,fO,fP,fQ,fR,fS,fT,fU,fV,fW,fX,fY,fZ,gA,gB,gC,gD,gE,gF,gG,gH,gI,gJ,gK,gL,gM,gN,gO,gP] [] w
  ) (
    (Qbin Tryd.prog .eql 3 aB (Value.int .i64 16)).bind fun v39 =>
    condK v39 (
      s97J2 [aA,aB,aC,aD,aE,aF,aG,aH,aI,aJ, (Value.int .u64 1152921504606846976), aL,aM,aN,aO,aP,aQ,aR,aS,aT,aU,aV,aW,aX,aY,aZ,bA,bB,bC,bD,bE,bF,bG,bH,bI,bJ,bK,bL,bM,bN,bO,bP,bQ,bR,bS,bT,bU,bV,bW,bX,bY,bZ,cA,cB,cC,cD,cE,cF,cG,cH,cI,cJ,cK,cL,cM,cN,cO,cP,cQ,cR,cS,cT,cU,cV,cW,cX,cY,cZ,dA,dB,dC,dD,dE,dF,dG,aB,dI,dJ,dK,dL, v38, v38, v39, v39, dQ,dR,dS,dT,dU,dV,dW,dX,dY,dZ,eA,eB,eC,eD,eE,eF,eG,eH,eI,eJ,eK,eL,eM,eN,eO,eP,eQ,eR,eS,eT,eU,eV,eW,eX,eY,eZ,fA,fB,fC,fD,fE,fF,fG,fH,fI,fJ,fK,fL,fM,fN,fO,fP,fQ,fR,fS,fT,fU,fV,fW,fX,fY,fZ,gA,gB,gC,gD,gE,gF,gG,gH,gI,gJ,gK,gL,gM,gN,gO,gP] [] w
    ) (
      (Qconv Tryd.prog 3 63 aB).bind fun v40 =>
      (Qbin Tryd.prog .quo 63 (Value.int .u64 18446744073709551615) v40).bind fun v41 =>
      (Qbin Tryd.prog .add 63 v41 (Value.int .u64 1)).bind fun v42 =>
      s97J2 [aA,aB,aC,aD,aE,aF,aG,aH,aI,aJ, v42, aL,aM,aN,aO,aP,aQ,aR,aS,aT,aU,aV,aW,aX,aY,aZ,bA,bB,bC,bD,bE,bF,bG,bH,bI,bJ,bK,bL,bM,bN,bO,bP,bQ,bR,bS,bT,bU,bV,bW,bX,bY,bZ,cA,cB,cC,cD,cE,cF,cG,cH,cI,cJ,cK,cL,cM,cN,cO,cP,cQ,cR,cS,cT,cU,cV,cW,cX,cY,cZ,dA,dB,dC,dD,dE,dF,dG,aB,aB, v40, v41, v42, v38, v38, v39, v39, dQ,dR,dS,dT,dU,dV,dW,dX,dY,dZ,eA,eB,eC,eD,eE,eF,eG,eH,eI,eJ,eK,eL,eM,eN,eO,eP,eQ,eR,eS,eT,eU,eV,eW,eX,eY,eZ,fA,fB,fC,fD,fE,fF,fG,fH,fI,fJ,fK,fL,fM,fN,fO,fP,fQ,fR,fS,fT,fU,fV,fW,fX,fY,fZ,gA,gB,gC,gD,gE,gF,gG,gH,gI,gJ,gK,gL,gM,gN,gO,gP] [] w
    )
  )
noncomputable def s97M1 (s0 s1 s2 s6 s7 s8 s9 : Value) (w : World) : Option (Value × World) :=
  (Qbin Tryd.prog .eql 3 s1 (Value.int .i64 10)).bind fun v38 =>
  condK v38 (
    s97M2 s0 s1 s2 s6 s7 s8 s9 (Value.int .u64 1844674407370955162) w
  ) (
    (Qbin Tryd.prog .eql 3 s1 (Value.int .i64 16)).bind fun v39 =>
    condK v39 (
      s97M2 s0 s1 s2 s6 s7 s8 s9 (Value.int .u64 1152921504606846976) w
    ) (
      (Qconv Tryd.prog 3 63 s1).bind fun v40 =>
      (Qbin Tryd.prog .quo 63 (Value.int .u64 18446744073709551615) v40).bind fun v41 =>
      (Qbin Tryd.prog .add 63 v41 (Value.int .u64 1)).bind fun v42 =>
      s97M2 s0 s1 s2 s6 s7 s8 s9 v42 w
    )
  )
noncomputable def s97M0raw (aA aB aC aD aE aF aG aH aI aJ aK aL aM aN aO aP aQ aR aS aT aU aV aW aX aY aZ bA bB bC bD bE bF bG bH bI bJ bK bL bM bN bO bP bQ bR bS bT bU bV bW bX bY bZ cA cB cC cD cE cF cG cH cI cJ cK cL cM cN cO cP cQ cR cS cT cU cV cW cX _ _ dA dB dC dD dE dF dG dH dI dJ dK dL dM dN dO dP dQ dR dS dT dU dV dW dX dY dZ eA eB eC eD eE eF eG eH eI eJ eK eL eM eN eO eP eQ eR eS eT eU eV eW eX eY eZ fA fB fC fD fE fF fG fH fI fJ fK fL fM fN fO fP fQ fR fS fT fU fV fW fX fY fZ gA gB gC gD gE gF gG gH gI gJ gK gL gM gN gO gP : Value) (w : World) : Option (Value × World) :=
  (Qbin Tryd.prog .eql 3 aC (Value.int .i64 0)).bind fun v33 =>
  condK v33 (
    s97J1 [aA,aB, (Value.int .i64 64), aD,aE,aF,aG,aH,aI,aJ,aK,aL,aM,aN,aO,aP,aQ,aR,aS,aT,aU,aV,aW,aX,aY,aZ,bA,bB,bC,bD,bE,bF,bG,bH,bI,bJ,bK,bL,bM,bN,bO,bP,bQ,bR,bS,bT,bU,bV,bW,bX,bY,bZ,cA,cB,cC,cD,cE,cF,cG,cH,cI,cJ,cK,cL,cM,cN,cO,cP,cQ,cR,cS,cT,cU,cV,cW,cX,aC, v33, dA,dB,dC,dD,dE,dF,dG,dH,dI,dJ,dK,dL,dM,dN,dO,dP,dQ,dR,dS,dT,dU,dV,dW,dX,dY,dZ,eA,eB,eC,eD,eE,eF,eG,eH,eI,eJ,eK,eL,eM,eN,eO,eP,eQ,eR,eS,eT,eU,eV,eW,eX,eY,eZ,fA,fB,fC,fD,fE,fF,fG,fH,fI,fJ,fK,fL,fM,fN,fO,fP,fQ,fR,fS,fT,fU,fV,fW,fX,fY,fZ,gA,gB,gC,gD,gE,gF,gG,gH,gI,gJ,gK,gL,gM,gN,gO,gP] [] w
  ) (
    (Qbin Tryd.prog .lss 3 aC (Value.int .i64 0)).bind fun v34 =>
    (guardQ v34 false (Qbin Tryd.prog .gtr 3 (gv (isB v34 false) aC) (Value.int .i64 64))).bind fun v35 =>
    (Qpick v34 (Value.bool true) v35).bind fun v36 =>
    condK v36 (
      (Qiface Tryd.prog 137 (Value.int .i64 4)).bind fun v37 =>
      some ((Value.tuple #[(Value.int .u64 0), v37]), w)
    ) (
      s97J1 [aA,aB,aC,aD,aE,aF,aG,aH,aI,aJ,aK,aL,aM,aN,aO,aP,aQ,aR,aS,aT,aU,aV,aW,aX,aY,aZ,bA,bB,bC,bD,bE,bF,bG,bH,bI,bJ,bK,bL,bM,bN,bO,bP,bQ,bR,bS,bT,bU,bV,bW,bX,bY,bZ,cA,cB,cC,cD,cE,cF,cG,cH,cI,cJ,cK,cL,cM,cN,cO,cP,cQ,cR,cS,cT,cU,cV,cW,cX,aC, v33, aC, v34, v34, (gv (isB v34 false) aC), v35, v36, dG,dH,dI,dJ,dK,dL,dM,dN,dO,dP,dQ,dR,dS,dT,dU,dV,dW,dX,dY,dZ,eA,eB,eC,eD,eE,eF,eG,eH,eI,eJ,eK,eL,eM,eN,eO,eP,eQ,eR,eS,eT,eU,eV,eW,eX,eY,eZ,fA,fB,fC,fD,fE,fF,fG,fH,fI,fJ,fK,fL,fM,fN,fO,fP,fQ,fR,fS,fT,fU,fV,fW,fX,fY,fZ,gA,gB,gC,gD,gE,gF,gG,gH,gI,gJ,gK,gL,gM,gN,gO,gP] [] w
    )
  )
noncomputable def s97M0 (s0 s1 s2 s6 s7 s8 s9 : Value) (w : World) : Option (Value × World) :=
  (Qbin Tryd.prog .eql 3 s2 (Value.int .i64 0)).bind fun v33 =>
  condK v33 (
    s97M1 s0 s1 (Value.int .i64 64) s6 s7 s8 s9 w
  ) (
    (Qbin Tryd.prog .lss 3 s2 (Value.int .i64 0)).bind fun v34 =>
    (guardQ v34 false (Qbin Tryd.prog .gtr 3 (gv (isB v34 false) s2) (Value.int .i64 64))).bind fun v35 =>
    (Qpick v34 (Value.bool true) v35).bind fun v36 =>
    condK v36 (
      (Qiface Tryd.prog 137 (Value.int .i64 4)).bind fun v37 =>
      some ((Value.tuple #[(Value.int .u64 0), v37]), w)
    ) (
      s97M1 s0 s1 s2 s6 s7 s8 s9 w
    )
  )
noncomputable def s97raw (x0 x1 x2 : Value) (w : World) : Option (Value × World) :=
  (Qbin Tryd.prog .eql 9 x0 (Value.string { data := #[] })).bind fun v1 =>
  condK v1 (
    (Qiface Tryd.prog 137 (Value.int .i64 2)).bind fun v2 =>
    some ((Value.tuple #[(Value.int .u64 0), v2]), w)
  ) (
    (Qbin Tryd.prog .eql 3 x1 (Value.int .i64 0)).bind fun v3 =>
    (Qbin Tryd.prog .leq 3 (Value.int .i64 2) x1).bind fun v4 =>
    (guardQ v4 true (Qbin Tryd.prog .leq 3 (gv (isB v4 true) x1) (Value.int .i64 36))).bind fun v5 =>
    (Qpick v4 v5 (Value.bool false)).bind fun v6 =>
    condK v6 (
      s97J0 [x0, x1, x2, undef, undef, undef, (Value.int .u64 0), Value.nilIface, v3, x0, undef, undef, undef, undef, undef, undef, undef, undef, x0, v1, undef, x1, v3, x0, undef, v6, x1, v4, v4, (gv (isB v4 true) x1), v5, v6, undef, undef, undef, undef, undef, undef, undef, undef, undef, undef, undef, undef, undef, undef, undef, undef, undef, undef, undef, undef, undef, undef, undef, undef, undef, undef, undef, undef, undef, undef, undef, undef, undef, undef, undef, undef, undef, undef, undef, undef, undef, undef, undef, undef, undef, undef, undef, undef, undef, undef, undef, undef, undef, undef, undef, undef, undef, undef, undef, undef, undef, undef, undef, undef, undef, undef, undef, undef, undef, undef, undef, undef, undef, undef, undef, undef, undef, undef, undef, undef, undef, undef, undef, undef, undef, undef, undef, undef, undef, undef, undef, undef, undef, undef, undef, undef, undef, undef, undef, undef, undef, undef, undef, undef, undef, undef, undef, undef, undef, undef, undef, undef, undef, undef, undef, undef, undef, undef, undef, undef, undef, undef, undef, undef, undef, undef, undef, undef, undef, undef, undef, undef, undef, undef, undef, undef, undef, undef, undef, undef] [] w
    ) (
      (Qbin Tryd.prog .eql 3 x1 (Value.int .i64 0)).bind fun v7 =>
      condK v7 (
        (Qindex Tryd.prog 9 x0 (Value.int .i64 0) w).bind fun v8 =>
        (Qbin Tryd.prog .eql 5 v8 (Value.int .u8 48)).bind fun v9 =>
        condK v9 (
          (Qlen Tryd.prog #[9] 3 #[x0] w).bind fun v10 =>
          (Qbin Tryd.prog .geq 3 v10 (Value.int .i64 3)).bind fun v11 =>
          (guardQ v11 true (Qindex Tryd.prog 9 (gv (isB v11 true) x0) (Value.int .i64 1) w)).bind fun v12 =>
          (guardX v11 true w (Xcall Tryd.prog (Value.func (Fn.func 106) #[] #[]) #[v12] w)).bind fun r13 =>
          (guardQ v11 true (Qbin Tryd.prog .eql 5 r13.1 (Value.int .u8 98))).bind fun v14 =>
          (Qpick v11 v14 (Value.bool false)).bind fun v15 =>
          condK v15 (
            (Qslice Tryd.prog 9 x0 (some (Value.int .i64 2)) none none r13.2).bind fun v16 =>
            s97J0 [v16, (Value.int .i64 2), x2, undef, undef, undef, (Value.int .u64 0), Value.nilIface, v3, x0, undef, undef, undef, undef, undef, undef, undef, undef, x0, v1, undef, x1, v3, x0, undef, v6, x1, v4, v4, (gv (isB v4 true) x1), v5, v6, v7, x1, v7, x0, v8, v9, undef, undef, v15, x0, v10, v11, v11, (gv (isB v11 true) x0), v12, r13.1, v14, v15, x0, v16, undef, undef, undef, undef, undef, undef, undef, undef, undef, undef, undef, undef, undef, undef, undef, undef, undef, undef, undef, undef, undef, undef, undef, undef, undef, undef, undef, undef, undef, undef, undef, undef, undef, undef, undef, undef, undef, undef, undef, undef, undef, undef, undef, undef, undef, undef, undef, undef, undef, undef, undef, undef, undef, undef, undef, undef, undef, undef, undef, undef, undef, undef, undef, undef, undef, undef, undef, undef, undef, undef, undef, undef, undef, undef, undef, undef, undef, undef, undef, undef, undef, undef, undef, undef, undef, undef, undef, undef, undef, undef, undef, undef, undef, undef, undef, undef, undef, undef, undef, undef, undef, undef, undef, undef, undef, undef, undef, undef, undef, undef, undef, undef, undef, undef, undef, undef, undef, undef, undef, undef] [] r13.2
          ) (
            (Qlen Tryd.prog #[9] 3 #[x0] r13.2).bind fun v17 =>
            (Qbin Tryd.prog .geq 3 v17 (Value.int .i64 3)).bind fun v18 =>
            (guardQ v18 true (Qindex Tryd.prog 9 (gv (isB v18 true) x0) (Value.int .i64 1) r13.2)).bind fun v19 =>
            (guardX v18 true r13.2 (Xcall Tryd.prog (Value.func (Fn.func 106) #[] #[]) #[v19] r13.2)).bind fun r20 =>
            (guardQ v18 true (Qbin Tryd.prog .eql 5 r20.1 (Value.int .u8 111))).bind fun v21 =>
            (Qpick v18 v21 (Value.bool false)).bind fun v22 =>
            condK v22 (
              (Qslice Tryd.prog 9 x0 (some (Value.int .i64 2)) none none r20.2).bind fun v23 =>
              s97J0 [v23, (Value.int .i64 8), x2, undef, undef, undef, (Value.int .u64 0), Value.nilIface, v3, x0, undef, undef, undef, undef, undef, undef, undef, undef, x0, v1, undef, x1, v3, x0, undef, v6, x1, v4, v4, (gv (isB v4 true) x1), v5, v6, v7, x1, v7, x0, v8, v9, undef, undef, v15, x0, v10, v11, v11, (gv (isB v11 true) x0), v12, r13.1, v14, v15, undef, undef, v22, x0, v17, v18, v18, (gv (isB v18 true) x0), v19, r20.1, v21, v22, x0, v23, undef, undef, undef, undef, undef, undef, undef, undef, undef, undef, undef, undef, undef, undef, undef, undef, undef, undef, undef, undef, undef, undef, undef, undef, undef, undef, undef, undef, undef, undef, undef, undef, undef, undef, undef, undef, undef, undef, undef, undef, undef, undef, undef, undef, undef, undef, undef, undef, undef, undef, undef, undef, undef, undef, undef, undef, undef, undef, undef, undef, undef, undef, undef, undef, undef, undef, undef, undef, undef, undef, undef, undef, undef, undef, undef, undef, undef, undef, undef, undef, undef, undef, undef, undef, undef, undef, undef, undef, undef, undef, undef, undef, undef, undef, undef, undef, undef, undef, undef, undef, undef, undef, undef, undef, undef, undef, undef, undef] [] r20.2
            ) (
              (Qlen Tryd.prog #[9] 3 #[x0] r20.2).bind fun v24 =>
              (Qbin Tryd.prog .geq 3 v24 (Value.int .i64 3)).bind fun v25 =>
              (guardQ v25 true (Qindex Tryd.prog 9 (gv (isB v25 true) x0) (Value.int .i64 1) r20.2)).bind fun v26 =>
              (guardX v25 true r20.2 (Xcall Tryd.prog (Value.func (Fn.func 106) #[] #[]) #[v26] r20.2)).bind fun r27 =>
              (guardQ v25 true (Qbin Tryd.prog .eql 5 r27.1 (Value.int .u8 120))).bind fun v28 =>
              (Qpick v25 v28 (Value.bool false)).bind fun v29 =>
              condK v29 (
                (Qslice Tryd.prog 9 x0 (some (Value.int .i64 2)) none none r27.2).bind fun v30 =>
                s97J0 [v30, (Value.int .i64 16), x2, undef, undef, undef, (Value.int .u64 0), Value.nilIface, v3, x0, undef, undef, undef, undef, undef, undef, undef, undef, x0, v1, undef, x1, v3, x0, undef, v6, x1, v4, v4, (gv (isB v4 true) x1), v5, v6, v7, x1, v7, x0, v8, v9, undef, undef, v15, x0, v10, v11, v11, (gv (isB v11 true) x0), v12, r13.1, v14, v15, undef, undef, v22, x0, v17, v18, v18, (gv (isB v18 true) x0), v19, r20.1, v21, v22, undef, undef, v29, x0, v24, v25, v25, (gv (isB v25 true) x0), v26, r27.1, v28, v29, x0, v30, undef, undef, undef, undef, undef, undef, undef, undef, undef, undef, undef, undef, undef, undef, undef, undef, undef, undef, undef, undef, undef, undef, undef, undef, undef, undef, undef, undef, undef, undef, undef, undef, undef, undef, undef, undef, undef, undef, undef, undef, undef, undef, undef, undef, undef, undef, undef, undef, undef, undef, undef, undef, undef, undef, undef, undef, undef, undef, undef, undef, undef, undef, undef, undef, undef, undef, undef, undef, undef, undef, undef, undef, undef, undef, undef, undef, undef, undef, undef, undef, undef, undef, undef, undef, undef, undef, undef, undef, undef, undef, undef, undef, undef, undef, undef, undef] [] r27.2
              ) (
                (Qslice Tryd.prog 9 x0 (some (Value.int .i64 1)) none none r27.2).bind fun v31 =>
                s97J0 [v31, (Value.int .i64 8), x2, undef, undef, undef, (Value.int .u64 0), Value.nilIface, v3, x0, undef, undef, undef, undef, undef, undef, undef, undef, x0, v1, undef, x1, v3, x0, undef, v6, x1, v4, v4, (gv (isB v4 true) x1), v5, v6, v7, x1, v7, x0, v8, v9, x0, v31, v15, x0, v10, v11, v11, (gv (isB v11 true) x0), v12, r13.1, v14, v15, undef, undef, v22, x0, v17, v18, v18, (gv (isB v18 true) x0), v19, r20.1, v21, v22, undef, undef, v29, x0, v24, v25, v25, (gv (isB v25 true) x0), v26, r27.1, v28, v29, undef, undef, undef, undef, undef, undef, undef, undef, undef, undef, undef, undef, undef, undef, undef, undef, undef, undef, undef, undef, undef, undef, undef, undef, undef, undef, undef, undef, undef, undef, undef, undef, undef, undef, undef, undef, undef, undef, undef, undef, undef, undef, undef, undef, undef, undef, undef, undef, undef, undef, undef, undef, undef, undef, undef, undef, undef, undef, undef, undef, undef, undef, undef, undef, undef, undef, undef, undef, undef, undef, undef, undef, undef, undef, undef, undef, undef, undef, undef, undef, undef, undef, undef, undef, undef, undef, undef, undef, undef, undef, undef, undef, undef, undef, undef, undef, undef, undef] [] r27.2
              )
            )
          )
        ) (
          s97J0 [x0, (Value.int .i64 10), x2, undef, undef, undef, (Value.int .u64 0), Value.nilIface, v3, x0, undef, undef, undef, undef, undef, undef, undef, undef, x0, v1, undef, x1, v3, x0, undef, v6, x1, v4, v4, (gv (isB v4 true) x1), v5, v6, v7, x1, v7, x0, v8, v9, undef, undef, undef, undef, undef, undef, undef, undef, undef, undef, undef, undef, undef, undef, undef, undef, undef, undef, undef, undef, undef, undef, undef, undef, undef, undef, undef, undef, undef, undef, undef, undef, undef, undef, undef, undef, undef, undef, undef, undef, undef, undef, undef, undef, undef, undef, undef, undef, undef, undef, undef, undef, undef, undef, undef, undef, undef, undef, undef, undef, undef, undef, undef, undef, undef, undef, undef, undef, undef, undef, undef, undef, undef, undef, undef, undef, undef, undef, undef, undef, undef, undef, undef, undef, undef, undef, undef, undef, undef, undef, undef, undef, undef, undef, undef, undef, undef, undef, undef, undef, undef, undef, undef, undef, undef, undef, undef, undef, undef, undef, undef, undef, undef, undef, undef, undef, undef, undef, undef, undef, undef, undef, undef, undef, undef, undef, undef, undef, undef, undef, undef, undef, undef, undef] [] w
        )
      ) (
        (Qiface Tryd.prog 137 (Value.int .i64 3)).bind fun v32 =>
        some ((Value.tuple #[(Value.int .u64 0), v32]), w)
      )
    )
  )
noncomputable def s97 (x0 x1 x2 : Value) (w : World) : Option (Value × World) :=
  (Qbin Tryd.prog .eql 9 x0 (Value.string { data := #[] })).bind fun v1 =>
  condK v1 (
    (Qiface Tryd.prog 137 (Value.int .i64 2)).bind fun v2 =>
    some ((Value.tuple #[(Value.int .u64 0), v2]), w)
  ) (
    (Qbin Tryd.prog .eql 3 x1 (Value.int .i64 0)).bind fun v3 =>
    (Qbin Tryd.prog .leq 3 (Value.int .i64 2) x1).bind fun v4 =>
    (guardQ v4 true (Qbin Tryd.prog .leq 3 (gv (isB v4 true) x1) (Value.int .i64 36))).bind fun v5 =>
    (Qpick v4 v5 (Value.bool false)).bind fun v6 =>
    condK v6 (
      s97M0 x0 x1 x2 (Value.int .u64 0) Value.nilIface v3 x0 w
    ) (
      (Qbin Tryd.prog .eql 3 x1 (Value.int .i64 0)).bind fun v7 =>
      condK v7 (
        (Qindex Tryd.prog 9 x0 (Value.int .i64 0) w).bind fun v8 =>
        (Qbin Tryd.prog .eql 5 v8 (Value.int .u8 48)).bind fun v9 =>
        condK v9 (
          (Qlen Tryd.prog #[9] 3 #[x0] w).bind fun v10 =>
          (Qbin Tryd.prog .geq 3 v10 (Value.int .i64 3)).bind fun v11 =>
          (guardQ v11 true (Qindex Tryd.prog 9 (gv (isB v11 true) x0) (Value.int .i64 1) w)).bind fun v12 =>
          (guardX v11 true w (Xcall Tryd.prog (Value.func (Fn.func 106) #[] #[]) #[v12] w)).bind fun r13 =>
          (guardQ v11 true (Qbin Tryd.prog .eql 5 r13.1 (Value.int .u8 98))).bind fun v14 =>
          (Qpick v11 v14 (Value.bool false)).bind fun v15 =>
          condK v15 (
            (Qslice Tryd.prog 9 x0 (some (Value.int .i64 2)) none none r13.2).bind fun v16 =>
            s97M0 v16 (Value.int .i64 2) x2 (Value.int .u64 0) Value.nilIface v3 x0 r13.2
          ) (
            (Qlen Tryd.prog #[9] 3 #[x0] r13.2).bind fun v17 =>
            (Qbin Tryd.prog .geq 3 v17 (Value.int .i64 3)).bind fun v18 =>
            (guardQ v18 true (Qindex Tryd.prog 9 (gv (isB v18 true) x0) (Value.int .i64 1) r13.2)).bind fun v19 =>
            (guardX v18 true r13.2 (Xcall Tryd.prog (Value.func (Fn.func 106) #[] #[]) #[v19] r13.2)).bind fun r20 =>
            (guardQ v18 true (Qbin Tryd.prog .eql 5 r20.1 (Value.int .u8 111))).bind fun v21 =>
            (Qpick v18 v21 (Value.bool false)).bind fun v22 =>
            condK v22 (
              (Qslice Tryd.prog 9 x0 (some (Value.int .i64 2)) none none r20.2).bind fun v23 =>
              s97M0 v23 (Value.int .i64 8) x2 (Value.int .u64 0) Value.nilIface v3 x0 r20.2
            ) (
              (Qlen Tryd.prog #[9] 3 #[x0] r20.2).bind fun v24 =>
              (Qbin Tryd.prog .geq 3 v24 (Value.int .i64 3)).bind fun v25 =>
              (guardQ v25 true (Qindex Tryd.prog 9 (gv (isB v25 true) x0) (Value.int .i64 1) r20.2)).bind fun v26 =>
              (guardX v25 true r20.2 (Xcall Tryd.prog (Value.func (Fn.func 106) #[] #[]) #[v26] r20.2)).bind fun r27 =>
              (guardQ v25 true (Qbin Tryd.prog .eql 5 r27.1 (Value.int .u8 120))).bind fun v28 =>
              (Qpick v25 v28 (Value.bool false)).bind fun v29 =>
              condK v29 (
                (Qslice Tryd.prog 9 x0 (some (Value.int .i64 2)) none none r27.2).bind fun v30 =>
                s97M0 v30 (Value.int .i64 16) x2 (Value.int .u64 0) Value.nilIface v3 x0 r27.2
              ) (
                (Qslice Tryd.prog 9 x0 (some (Value.int .i64 1)) none none r27.2).bind fun v31 =>
                s97M0 v31 (Value.int .i64 8) x2 (Value.int .u64 0) Value.nilIface v3 x0 r27.2
              )
            )
          )
        ) (
          s97M0 x0 (Value.int .i64 10) x2 (Value.int .u64 0) Value.nilIface v3 x0 w
        )
      ) (
        (Qiface Tryd.prog 137 (Value.int .i64 3)).bind fun v32 =>
        some ((Value.tuple #[(Value.int .u64 0), v32]), w)
      )
    )
  )
set_option maxRecDepth 100000 in
theorem s97J4eq (aA aB aC aD aE aF aG aH aI aJ aK aL aM aN aO aP aQ aR aS aT aU aV aW aX aY aZ bA bB bC bD bE bF bG bH bI bJ bK bL bM bN bO bP bQ bR bS bT bU bV bW bX bY bZ cA cB cC cD cE cF cG cH cI cJ cK cL cM cN cO cP cQ cR cS cT cU cV cW cX cY cZ dA dB dC dD dE dF dG dH dI dJ dK dL dM dN dO dP dQ dR dS dT dU dV dW dX dY dZ eA eB eC eD eE eF eG eH eI eJ eK eL eM eN eO eP eQ eR eS eT eU eV eW eX eY eZ fA fB fC fD fE fF fG fH fI fJ fK fL fM fN fO fP fQ fR fS fT fU fV fW fX fY fZ gA gB gC gD gE gF gG gH gI gJ gK gL gM gN gO gP : Value) (w : World) : s97J4 [aA,aB,aC,aD,aE,aF,aG,aH,aI,aJ,aK,aL,aM,aN,aO,aP,aQ,aR,aS,aT,aU,aV,aW,aX,aY,aZ,bA,bB,bC,bD,bE,bF,bG,bH,bI,bJ,bK,bL,bM,bN,bO,bP,bQ,bR,bS,bT,bU,bV,bW,bX,bY,bZ,cA,cB,cC,cD,cE,cF,cG,cH,cI,cJ,cK,cL,cM,cN,cO,cP,cQ,cR,cS,cT,cU,cV,cW,cX,cY,cZ,dA,dB,dC,dD,dE,dF,dG,dH,dI,dJ,dK,dL,dM,dN,dO,dP,dQ,dR,dS,dT,dU,dV,dW,dX,dY,dZ,eA,eB,eC,eD,eE,eF,eG,eH,eI,eJ,eK,eL,eM,eN,eO,eP,eQ,eR,eS,eT,eU,eV,eW,eX,eY,eZ,fA,fB,fC,fD,fE,fF,fG,fH,fI,fJ,fK,fL,fM,fN,fO,fP,fQ,fR,fS,fT,fU,fV,fW,fX,fY,fZ,gA,gB,gC,gD,gE,gF,gG,gH,gI,gJ,gK,gL,gM,gN,gO,gP] [] w = s97M4 aB aG aH aI aJ aK aL aM aN aQ dV dW dX w := (show s97J4 [aA,aB,aC,aD,aE,aF,aG,aH,aI,aJ,aK,aL,aM,aN,aO,aP,aQ,aR,aS,aT,aU,aV,aW,aX,aY,aZ,bA,bB,bC,bD,bE,bF,bG,bH,bI,bJ,bK,bL,bM,bN,bO,bP,bQ,bR,bS,bT,bU,bV,bW,bX,bY,bZ,cA,cB,cC,cD,cE,cF,cG,cH,cI,cJ,cK,cL,cM,cN,cO,cP,cQ,cR,cS,cT,cU,cV,cW,cX,cY,cZ,dA,dB,dC,dD,dE,dF,dG,dH,dI,dJ,dK,dL,dM,dN,dO,dP,dQ,dR,dS,dT,dU,dV,dW,dX,dY,dZ,eA,eB,eC,eD,eE,eF,eG,eH,eI,eJ,eK,eL,eM,eN,eO,eP,eQ,eR,eS,eT,eU,eV,eW,eX,eY,eZ,fA,fB,fC,fD,fE,fF,fG,fH,fI,fJ,fK,fL,fM,fN,fO,fP,fQ,fR,fS,fT,fU,fV,fW,fX,fY,fZ,gA,gB,gC,gD,gE,gF,gG,gH,gI,gJ,gK,gL,gM,gN,gO,gP] [] w = evK Tryd.prog 97 none (nav [1, 1, 1, 1, 1, 1, 1, 1, 1, 1, 1, 0, 1, 0, 0, 1, 1, 0, 0, 1, 1, 1] (bodyOf Tryd.f97)) none _ ⟨[aA,aB,aC,aD,aE,aF,aG,aH,aI,aJ,aK,aL,aM,aN,aO,aP,aQ,aR,aS,aT,aU,aV,aW,aX,aY,aZ,bA,bB,bC,bD,bE,bF,bG,bH,bI,bJ,bK,bL,bM,bN,bO,bP,bQ,bR,bS,bT,bU,bV,bW,bX,bY,bZ,cA,cB,cC,cD,cE,cF,cG,cH,cI,cJ,cK,cL,cM,cN,cO,cP,cQ,cR,cS,cT,cU,cV,cW,cX,cY,cZ,dA,dB,dC,dD,dE,dF,dG,dH,dI,dJ,dK,dL,dM,dN,dO,dP,dQ,dR,dS,dT,dU,dV,dW,dX,dY,dZ,eA,eB,eC,eD,eE,eF,eG,eH,eI,eJ,eK,eL,eM,eN,eO,eP,eQ,eR,eS,eT,eU,eV,eW,eX,eY,eZ,fA,fB,fC,fD,fE,fF,fG,fH,fI,fJ,fK,fL,fM,fN,fO,fP,fQ,fR,fS,fT,fU,fV,fW,fX,fY,fZ,gA,gB,gC,gD,gE,gF,gG,gH,gI,gJ,gK,gL,gM,gN,gO,gP].toArray, []⟩ w s97K8 from by kernel_rfl).trans (by kernel_rfl)
set_option maxRecDepth 100000 in
theorem s97J4of {aA aB aC aD aE aF aG aH aI aJ aK aL aM aN aO aP aQ aR aS aT aU aV aW aX aY aZ bA bB bC bD bE bF bG bH bI bJ bK bL bM bN bO bP bQ bR bS bT bU bV bW bX bY bZ cA cB cC cD cE cF cG cH cI cJ cK cL cM cN cO cP cQ cR cS cT cU cV cW cX cY cZ dA dB dC dD dE dF dG dH dI dJ dK dL dM dN dO dP dQ dR dS dT dU dV dW dX dY dZ eA eB eC eD eE eF eG eH eI eJ eK eL eM eN eO eP eQ eR eS eT eU eV eW eX eY eZ fA fB fC fD fE fF fG fH fI fJ fK fL fM fN fO fP fQ fR fS fT fU fV fW fX fY fZ gA gB gC gD gE gF gG gH gI gJ gK gL gM gN gO gP : Value} {w : World} {r : _} (h : s97M4 aB aG aH aI aJ aK aL aM aN aQ dV dW dX w = some r) : s97J4 [aA,aB,aC,aD,aE,aF,aG,aH,aI,aJ,aK,aL,aM,aN,aO,aP,aQ,aR,aS,aT,aU,aV,aW,aX,aY,aZ,bA,bB,bC,bD,bE,bF,bG,bH,bI,bJ,bK,bL,bM,bN,bO,bP,bQ,bR,bS,bT,bU,bV,bW,bX,bY,bZ,cA,cB,cC,cD,cE,cF,cG,cH,cI,cJ,cK,cL,cM,cN,cO,cP,cQ,cR,cS,cT,cU,cV,cW,cX,cY,cZ,dA,dB,dC,dD,dE,dF,dG,dH,dI,dJ,dK,dL,dM,dN,dO,dP,dQ,dR,dS,dT,dU,dV,dW,dX,dY,dZ,eA,eB,eC,eD,eE,eF,eG,eH,eI,eJ,eK,eL,eM,eN,eO,eP,eQ,eR,eS,eT,eU,eV,eW,eX,eY,eZ,fA,fB,fC,fD,fE,fF,fG,fH,fI,fJ,fK,fL,fM,fN,fO,fP,fQ,fR,fS,fT,fU,fV,fW,fX,fY,fZ,gA,gB,gC,gD,gE,gF,gG,gH,gI,gJ,gK,gL,gM,gN,gO,gP] [] w = some r :=
  ((s97J4eq aA aB aC aD aE aF aG aH aI aJ aK aL aM aN aO aP aQ aR aS aT aU aV aW aX aY aZ bA bB bC bD bE bF bG bH bI bJ bK bL bM bN bO bP bQ bR bS bT bU bV bW bX bY bZ cA cB cC cD cE cF cG cH cI cJ cK cL cM cN cO cP cQ cR cS cT cU cV cW cX cY cZ dA dB dC dD dE dF dG dH dI dJ dK dL dM dN dO dP dQ dR dS dT dU dV dW dX dY dZ eA eB eC eD eE eF eG eH eI eJ eK eL eM eN eO eP eQ eR eS eT eU eV eW eX eY eZ fA fB fC fD fE fF fG fH fI fJ fK fL fM fN fO fP fQ fR fS fT fU fV fW fX fY fZ gA gB gC gD gE gF gG gH gI gJ gK gL gM gN gO gP w).trans h)
theorem s97B3eq (x1 x6 x7 x8 x9 x10 x11 x12 x13 x99 x100 x101 : Value) (w : World) (g : Nat → Value) (d : List Deferred) : evK Tryd.prog 97 none (nav [1, 1, 1, 1, 1, 1, 1, 1, 1, 1, 1, 0, 1, 0, 0] (bodyOf Tryd.f97)) none _ (frm 172 (setL [1, 6, 7, 8, 9, 10, 11, 12, 13, 99, 100, 101] [x1, x6, x7, x8, x9, x10, x11, x12, x13, x99, x100, x101] g) d) w (projK [1, 6, 7, 8, 9, 10, 11, 12, 13, 99, 100, 101]) = s97B3raw g d [x1, x6, x7, x8, x9, x10, x11, x12, x13, x99, x100, x101] w := by kernel_rfl
theorem s97R3x3eq (x1 x6 x7 x8 x9 x10 x11 x12 x13 x99 x100 x101 : Value) (g : Nat → Value) (w : World) : s97K6 (Exit.exit 3) (frm 172 (setL [1, 6, 7, 8, 9, 10, 11, 12, 13, 99, 100, 101] [x1, x6, x7, x8, x9, x10, x11, x12, x13, x99, x100, x101] g) []) w = s97R3 (Exit.exit 3) [x1, x6, x7, x8, x9, x10, x11, x12, x13, x99, x100, x101] w := by kernel_rfl
theorem s97R3ret_eq (x1 x6 x7 x8 x9 x10 x11 x12 x13 x99 x100 x101 : Value) (g : Nat → Value) (w : World) : s97K6 Exit.ret (frm 172 (setL [1, 6, 7, 8, 9, 10, 11, 12, 13, 99, 100, 101] [x1, x6, x7, x8, x9, x10, x11, x12, x13, x99, x100, x101] g) []) w = s97R3 Exit.ret [x1, x6, x7, x8, x9, x10, x11, x12, x13, x99, x100, x101] w := by kernel_rfl
theorem s97R3of : ∀ (e : Exit) (xs : List Value) (w : World) (g : Nat → Value) (y : _), s97R3 e xs w = some y → s97K6 e (frm 172 (setL [1, 6, 7, 8, 9, 10, 11, 12, 13, 99, 100, 101] xs g) []) w = some y := by
  intro e xs w g y h
  unfold s97R3 at h
  split at h
  · exact (s97R3x3eq _ _ _ _ _ _ _ _ _ _ _ _ g _).trans h
  · exact (s97R3ret_eq _ _ _ _ _ _ _ _ _ _ _ _ g _).trans h
  · cases h
set_option maxRecDepth 20000 in
theorem s97L3of {aA aB aC aD aE aF aG aH aI aJ aK aL aM aN aO aP aQ aR aS aT aU aV aW aX aY aZ bA bB bC bD bE bF bG bH bI bJ bK bL bM bN bO bP bQ bR bS bT bU bV bW bX bY bZ cA cB cC cD cE cF cG cH cI cJ cK cL cM cN cO cP cQ cR cS cT cU cV cW cX cY cZ dA dB dC dD dE dF dG dH dI dJ dK dL dM dN dO dP dQ dR dS dT dU dV dW dX dY dZ eA eB eC eD eE eF eG eH eI eJ eK eL eM eN eO eP eQ eR eS eT eU eV eW eX eY eZ fA fB fC fD fE fF fG fH fI fJ fK fL fM fN fO fP fQ fR fS fT fU fV fW fX fY fZ gA gB gC gD gE gF gG gH gI gJ gK gL gM gN gO gP : Value} {w : World} {r : _} (h : loopR s97B3 s97R3 [aB,aG,aH,aI,aJ,aK,aL,aM,aN,dV,dW,dX] w = some r) : s97L3 [aA,aB,aC,aD,aE,aF,aG,aH,aI,aJ,aK,aL,aM,aN,aO,aP,aQ,aR,aS,aT,aU,aV,aW,aX,aY,aZ,bA,bB,bC,bD,bE,bF,bG,bH,bI,bJ,bK,bL,bM,bN,bO,bP,bQ,bR,bS,bT,bU,bV,bW,bX,bY,bZ,cA,cB,cC,cD,cE,cF,cG,cH,cI,cJ,cK,cL,cM,cN,cO,cP,cQ,cR,cS,cT,cU,cV,cW,cX,cY,cZ,dA,dB,dC,dD,dE,dF,dG,dH,dI,dJ,dK,dL,dM,dN,dO,dP,dQ,dR,dS,dT,dU,dV,dW,dX,dY,dZ,eA,eB,eC,eD,eE,eF,eG,eH,eI,eJ,eK,eL,eM,eN,eO,eP,eQ,eR,eS,eT,eU,eV,eW,eX,eY,eZ,fA,fB,fC,fD,fE,fF,fG,fH,fI,fJ,fK,fL,fM,fN,fO,fP,fQ,fR,fS,fT,fU,fV,fW,fX,fY,fZ,gA,gB,gC,gD,gE,gF,gG,gH,gI,gJ,gK,gL,gM,gN,gO,gP] [] w = some r :=
  loopN_of (B := s97B3) (R := s97R3) (n := 172) (live := [1, 6, 7, 8, 9, 10, 11, 12, 13, 99, 100, 101]) (fun xs w g y hl h => match xs, hl, h with | [x1, x6, x7, x8, x9, x10, x11, x12, x13, x99, x100, x101], _, h => (s97B3eq x1 x6 x7 x8 x9 x10 x11 x12 x13 x99 x100 x101 w g []).trans (show s97B3raw g [] [x1, x6, x7, x8, x9, x10, x11, x12, x13, x99, x100, x101] w = some y from (Ev.bind_mono fun (v48 : Value) => (condK_mono (Ev.bind_mono fun (v49 : Value) => (Ev.bind_mono fun (v50 : Value) => (Ev.bind_mono fun (v51 : Value) => (Ev.bind_mono fun (v52 : Value) => (condK_mono id (Ev.bind_mono fun (v54 : Value) => (Ev.bind_mono fun (v55 : Value) => (Ev.bind_mono fun (v56 : Value) => (condK_mono (Ev.bind_mono fun (v57 : Value) => (s97J4of)) (Ev.bind_mono fun (r58 : Value × World) => (Ev.bind_mono fun (v59 : Value) => (Ev.bind_mono fun (r60 : Value × World) => (Ev.bind_mono fun (v61 : Value) => (Ev.bind_mono fun (v62 : Value) => (condK_mono (Ev.bind_mono fun (r63 : Value × World) => (Ev.bind_mono fun (v64 : Value) => (Ev.bind_mono fun (v65 : Value) => (s97J4of)))) id))))))))))))))) id)) h)) (by kernel_rfl) (s97R3of) (fun i => ([aA,aB,aC,aD,aE,aF,aG,aH,aI,aJ,aK,aL,aM,aN,aO,aP,aQ,aR,aS,aT,aU,aV,aW,aX,aY,aZ,bA,bB,bC,bD,bE,bF,bG,bH,bI,bJ,bK,bL,bM,bN,bO,bP,bQ,bR,bS,bT,bU,bV,bW,bX,bY,bZ,cA,cB,cC,cD,cE,cF,cG,cH,cI,cJ,cK,cL,cM,cN,cO,cP,cQ,cR,cS,cT,cU,cV,cW,cX,cY,cZ,dA,dB,dC,dD,dE,dF,dG,dH,dI,dJ,dK,dL,dM,dN,dO,dP,dQ,dR,dS,dT,dU,dV,dW,dX,dY,dZ,eA,eB,eC,eD,eE,eF,eG,eH,eI,eJ,eK,eL,eM,eN,eO,eP,eQ,eR,eS,eT,eU,eV,eW,eX,eY,eZ,fA,fB,fC,fD,fE,fF,fG,fH,fI,fJ,fK,fL,fM,fN,fO,fP,fQ,fR,fS,fT,fU,fV,fW,fX,fY,fZ,gA,gB,gC,gD,gE,gF,gG,gH,gI,gJ,gK,gL,gM,gN,gO,gP] : List Value).getD i undef) (by kernel_rfl) rfl h
set_option maxRecDepth 100000 in
theorem s97J2eq (aA aB aC aD aE aF aG aH aI aJ aK aL aM aN aO aP aQ aR aS aT aU aV aW aX aY aZ bA bB bC bD bE bF bG bH bI bJ bK bL bM bN bO bP bQ bR bS bT bU bV bW bX bY bZ cA cB cC cD cE cF cG cH cI cJ cK cL cM cN cO cP cQ cR cS cT cU cV cW cX cY cZ dA dB dC dD dE dF dG dH dI dJ dK dL dM dN dO dP dQ dR dS dT dU dV dW dX dY dZ eA eB eC eD eE eF eG eH eI eJ eK eL eM eN eO eP eQ eR eS eT eU eV eW eX eY eZ fA fB fC fD fE fF fG fH fI fJ fK fL fM fN fO fP fQ fR fS fT fU fV fW fX fY fZ gA gB gC gD gE gF gG gH gI gJ gK gL gM gN gO gP : Value) (w : World) : s97J2 [aA,aB,aC,aD,aE,aF,aG,aH,aI,aJ,aK,aL,aM,aN,aO,aP,aQ,aR,aS,aT,aU,aV,aW,aX,aY,aZ,bA,bB,bC,bD,bE,bF,bG,bH,bI,bJ,bK,bL,bM,bN,bO,bP,bQ,bR,bS,bT,bU,bV,bW,bX,bY,bZ,cA,cB,cC,cD,cE,cF,cG,cH,cI,cJ,cK,cL,cM,cN,cO,cP,cQ,cR,cS,cT,cU,cV,cW,cX,cY,cZ,dA,dB,dC,dD,dE,dF,dG,dH,dI,dJ,dK,dL,dM,dN,dO,dP,dQ,dR,dS,dT,dU,dV,dW,dX,dY,dZ,eA,eB,eC,eD,eE,eF,eG,eH,eI,eJ,eK,eL,eM,eN,eO,eP,eQ,eR,eS,eT,eU,eV,eW,eX,eY,eZ,fA,fB,fC,fD,fE,fF,fG,fH,fI,fJ,fK,fL,fM,fN,fO,fP,fQ,fR,fS,fT,fU,fV,fW,fX,fY,fZ,gA,gB,gC,gD,gE,gF,gG,gH,gI,gJ,gK,gL,gM,gN,gO,gP] [] w = s97M2raw aA aB aC aD aE aF aG aH aI aJ aK aL aM aN aO aP aQ aR aS aT aU aV aW aX aY aZ bA bB bC bD bE bF bG bH bI bJ bK bL bM bN bO bP bQ bR bS bT bU bV bW bX bY bZ cA cB cC cD cE cF cG cH cI cJ cK cL cM cN cO cP cQ cR cS cT cU cV cW cX cY cZ dA dB dC dD dE dF dG dH dI dJ dK dL dM dN dO dP dQ dR dS dT dU dV dW dX dY dZ eA eB eC eD eE eF eG eH eI eJ eK eL eM eN eO eP eQ eR eS eT eU eV eW eX eY eZ fA fB fC fD fE fF fG fH fI fJ fK fL fM fN fO fP fQ fR fS fT fU fV fW fX fY fZ gA gB gC gD gE gF gG gH gI gJ gK gL gM gN gO gP w := (show s97J2 [aA,aB,aC,aD,aE,aF,aG,aH,aI,aJ,aK,aL,aM,aN,aO,aP,aQ,aR,aS,aT,aU,aV,aW,aX,aY,aZ,bA,bB,bC,bD,bE,bF,bG,bH,bI,bJ,bK,bL,bM,bN,bO,bP,bQ,bR,bS,bT,bU,bV,bW,bX,bY,bZ,cA,cB,cC,cD,cE,cF,cG,cH,cI,cJ,cK,cL,cM,cN,cO,cP,cQ,cR,cS,cT,cU,cV,cW,cX,cY,cZ,dA,dB,dC,dD,dE,dF,dG,dH,dI,dJ,dK,dL,dM,dN,dO,dP,dQ,dR,dS,dT,dU,dV,dW,dX,dY,dZ,eA,eB,eC,eD,eE,eF,eG,eH,eI,eJ,eK,eL,eM,eN,eO,eP,eQ,eR,eS,eT,eU,eV,eW,eX,eY,eZ,fA,fB,fC,fD,fE,fF,fG,fH,fI,fJ,fK,fL,fM,fN,fO,fP,fQ,fR,fS,fT,fU,fV,fW,fX,fY,fZ,gA,gB,gC,gD,gE,gF,gG,gH,gI,gJ,gK,gL,gM,gN,gO,gP] [] w = evK Tryd.prog 97 none (nav [1, 1, 1, 1, 1, 1, 1, 1] (bodyOf Tryd.f97)) none _ ⟨[aA,aB,aC,aD,aE,aF,aG,aH,aI,aJ,aK,aL,aM,aN,aO,aP,aQ,aR,aS,aT,aU,aV,aW,aX,aY,aZ,bA,bB,bC,bD,bE,bF,bG,bH,bI,bJ,bK,bL,bM,bN,bO,bP,bQ,bR,bS,bT,bU,bV,bW,bX,bY,bZ,cA,cB,cC,cD,cE,cF,cG,cH,cI,cJ,cK,cL,cM,cN,cO,cP,cQ,cR,cS,cT,cU,cV,cW,cX,cY,cZ,dA,dB,dC,dD,dE,dF,dG,dH,dI,dJ,dK,dL,dM,dN,dO,dP,dQ,dR,dS,dT,dU,dV,dW,dX,dY,dZ,eA,eB,eC,eD,eE,eF,eG,eH,eI,eJ,eK,eL,eM,eN,eO,eP,eQ,eR,eS,eT,eU,eV,eW,eX,eY,eZ,fA,fB,fC,fD,fE,fF,fG,fH,fI,fJ,fK,fL,fM,fN,fO,fP,fQ,fR,fS,fT,fU,fV,fW,fX,fY,fZ,gA,gB,gC,gD,gE,gF,gG,gH,gI,gJ,gK,gL,gM,gN,gO,gP].toArray, []⟩ w (leaveK Tryd.prog Tryd.f97) from by kernel_rfl).trans (by kernel_rfl)
set_option maxRecDepth 100000 in
theorem s97J2of {aA aB aC aD aE aF aG aH aI aJ aK aL aM aN aO aP aQ aR aS aT aU aV aW aX aY aZ bA bB bC bD bE bF bG bH bI bJ bK bL bM bN bO bP bQ bR bS bT bU bV bW bX bY bZ cA cB cC cD cE cF cG cH cI cJ cK cL cM cN cO cP cQ cR cS cT cU cV cW cX cY cZ dA dB dC dD dE dF dG dH dI dJ dK dL dM dN dO dP dQ dR dS dT dU dV dW dX dY dZ eA eB eC eD eE eF eG eH eI eJ eK eL eM eN eO eP eQ eR eS eT eU eV eW eX eY eZ fA fB fC fD fE fF fG fH fI fJ fK fL fM fN fO fP fQ fR fS fT fU fV fW fX fY fZ gA gB gC gD gE gF gG gH gI gJ gK gL gM gN gO gP : Value} {w : World} {r : _} (h : s97M2 aA aB aC aG aH aI aJ aK w = some r) : s97J2 [aA,aB,aC,aD,aE,aF,aG,aH,aI,aJ,aK,aL,aM,aN,aO,aP,aQ,aR,aS,aT,aU,aV,aW,aX,aY,aZ,bA,bB,bC,bD,bE,bF,bG,bH,bI,bJ,bK,bL,bM,bN,bO,bP,bQ,bR,bS,bT,bU,bV,bW,bX,bY,bZ,cA,cB,cC,cD,cE,cF,cG,cH,cI,cJ,cK,cL,cM,cN,cO,cP,cQ,cR,cS,cT,cU,cV,cW,cX,cY,cZ,dA,dB,dC,dD,dE,dF,dG,dH,dI,dJ,dK,dL,dM,dN,dO,dP,dQ,dR,dS,dT,dU,dV,dW,dX,dY,dZ,eA,eB,eC,eD,eE,eF,eG,eH,eI,eJ,eK,eL,eM,eN,eO,eP,eQ,eR,eS,eT,eU,eV,eW,eX,eY,eZ,fA,fB,fC,fD,fE,fF,fG,fH,fI,fJ,fK,fL,fM,fN,fO,fP,fQ,fR,fS,fT,fU,fV,fW,fX,fY,fZ,gA,gB,gC,gD,gE,gF,gG,gH,gI,gJ,gK,gL,gM,gN,gO,gP] [] w = some r :=
  ((s97J2eq aA aB aC aD aE aF aG aH aI aJ aK aL aM aN aO aP aQ aR aS aT aU aV aW aX aY aZ bA bB bC bD bE bF bG bH bI bJ bK bL bM bN bO bP bQ bR bS bT bU bV bW bX bY bZ cA cB cC cD cE cF cG cH cI cJ cK cL cM cN cO cP cQ cR cS cT cU cV cW cX cY cZ dA dB dC dD dE dF dG dH dI dJ dK dL dM dN dO dP dQ dR dS dT dU dV dW dX dY dZ eA eB eC eD eE eF eG eH eI eJ eK eL eM eN eO eP eQ eR eS eT eU eV eW eX eY eZ fA fB fC fD fE fF fG fH fI fJ fK fL fM fN fO fP fQ fR fS fT fU fV fW fX fY fZ gA gB gC gD gE gF gG gH gI gJ gK gL gM gN gO gP w).trans ((Ev.bind_mono fun (v43 : Value) => (Ev.bind_mono fun (v44 : Value) => (Ev.bind_mono fun (v45 : Value) => (Ev.bind_mono fun (r46 : Value × World) => (Ev.bind_mono fun (v47 : Value) => (s97L3of)))))) h))
set_option maxRecDepth 100000 in
theorem s97J1eq (aA aB aC aD aE aF aG aH aI aJ aK aL aM aN aO aP aQ aR aS aT aU aV aW aX aY aZ bA bB bC bD bE bF bG bH bI bJ bK bL bM bN bO bP bQ bR bS bT bU bV bW bX bY bZ cA cB cC cD cE cF cG cH cI cJ cK cL cM cN cO cP cQ cR cS cT cU cV cW cX cY cZ dA dB dC dD dE dF dG dH dI dJ dK dL dM dN dO dP dQ dR dS dT dU dV dW dX dY dZ eA eB eC eD eE eF eG eH eI eJ eK eL eM eN eO eP eQ eR eS eT eU eV eW eX eY eZ fA fB fC fD fE fF fG fH fI fJ fK fL fM fN fO fP fQ fR fS fT fU fV fW fX fY fZ gA gB gC gD gE gF gG gH gI gJ gK gL gM gN gO gP : Value) (w : World) : s97J1 [aA,aB,aC,aD,aE,aF,aG,aH,aI,aJ,aK,aL,aM,aN,aO,aP,aQ,aR,aS,aT,aU,aV,aW,aX,aY,aZ,bA,bB,bC,bD,bE,bF,bG,bH,bI,bJ,bK,bL,bM,bN,bO,bP,bQ,bR,bS,bT,bU,bV,bW,bX,bY,bZ,cA,cB,cC,cD,cE,cF,cG,cH,cI,cJ,cK,cL,cM,cN,cO,cP,cQ,cR,cS,cT,cU,cV,cW,cX,cY,cZ,dA,dB,dC,dD,dE,dF,dG,dH,dI,dJ,dK,dL,dM,dN,dO,dP,dQ,dR,dS,dT,dU,dV,dW,dX,dY,dZ,eA,eB,eC,eD,eE,eF,eG,eH,eI,eJ,eK,eL,eM,eN,eO,eP,eQ,eR,eS,eT,eU,eV,eW,eX,eY,eZ,fA,fB,fC,fD,fE,fF,fG,fH,fI,fJ,fK,fL,fM,fN,fO,fP,fQ,fR,fS,fT,fU,fV,fW,fX,fY,fZ,gA,gB,gC,gD,gE,gF,gG,gH,gI,gJ,gK,gL,gM,gN,gO,gP] [] w = s97M1raw aA aB aC aD aE aF aG aH aI aJ aK aL aM aN aO aP aQ aR aS aT aU aV aW aX aY aZ bA bB bC bD bE bF bG bH bI bJ bK bL bM bN bO bP bQ bR bS bT bU bV bW bX bY bZ cA cB cC cD cE cF cG cH cI cJ cK cL cM cN cO cP cQ cR cS cT cU cV cW cX cY cZ dA dB dC dD dE dF dG dH dI dJ dK dL dM dN dO dP dQ dR dS dT dU dV dW dX dY dZ eA eB eC eD eE eF eG eH eI eJ eK eL eM eN eO eP eQ eR eS eT eU eV eW eX eY eZ fA fB fC fD fE fF fG fH fI fJ fK fL fM fN fO fP fQ fR fS fT fU fV fW fX fY fZ gA gB gC gD gE gF gG gH gI gJ gK gL gM gN gO gP w := (show s97J1 [aA,aB,aC,aD,aE,aF,aG,aH,aI,aJ,aK,aL,aM,aN,aO,aP,aQ,aR,aS,aT,aU,aV,aW,aX,aY,aZ,bA,bB,bC,bD,bE,bF,bG,bH,bI,bJ,bK,bL,bM,bN,bO,bP,bQ,bR,bS,bT,bU,bV,bW,bX,bY,bZ,cA,cB,cC,cD,cE,cF,cG,cH,cI,cJ,cK,cL,cM,cN,cO,cP,cQ,cR,cS,cT,cU,cV,cW,cX,cY,cZ,dA,dB,dC,dD,dE,dF,dG,dH,dI,dJ,dK,dL,dM,dN,dO,dP,dQ,dR,dS,dT,dU,dV,dW,dX,dY,dZ,eA,eB,eC,eD,eE,eF,eG,eH,eI,eJ,eK,eL,eM,eN,eO,eP,eQ,eR,eS,eT,eU,eV,eW,eX,eY,eZ,fA,fB,fC,fD,fE,fF,fG,fH,fI,fJ,fK,fL,fM,fN,fO,fP,fQ,fR,fS,fT,fU,fV,fW,fX,fY,fZ,gA,gB,gC,gD,gE,gF,gG,gH,gI,gJ,gK,gL,gM,gN,gO,gP] [] w = evK Tryd.prog 97 none (nav [1, 1, 1, 1, 1, 1] (bodyOf Tryd.f97)) none _ ⟨[aA,aB,aC,aD,aE,aF,aG,aH,aI,aJ,aK,aL,aM,aN,aO,aP,aQ,aR,aS,aT,aU,aV,aW,aX,aY,aZ,bA,bB,bC,bD,bE,bF,bG,bH,bI,bJ,bK,bL,bM,bN,bO,bP,bQ,bR,bS,bT,bU,bV,bW,bX,bY,bZ,cA,cB,cC,cD,cE,cF,cG,cH,cI,cJ,cK,cL,cM,cN,cO,cP,cQ,cR,cS,cT,cU,cV,cW,cX,cY,cZ,dA,dB,dC,dD,dE,dF,dG,dH,dI,dJ,dK,dL,dM,dN,dO,dP,dQ,dR,dS,dT,dU,dV,dW,dX,dY,dZ,eA,eB,eC,eD,eE,eF,eG,eH,eI,eJ,eK,eL,eM,eN,eO,eP,eQ,eR,eS,eT,eU,eV,eW,eX,eY,eZ,fA,fB,fC,fD,fE,fF,fG,fH,fI,fJ,fK,fL,fM,fN,fO,fP,fQ,fR,fS,fT,fU,fV,fW,fX,fY,fZ,gA,gB,gC,gD,gE,gF,gG,gH,gI,gJ,gK,gL,gM,gN,gO,gP].toArray, []⟩ w (leaveK Tryd.prog Tryd.f97) from by kernel_rfl).trans (by kernel_rfl)
set_option maxRecDepth 100000 in
theorem s97J1of {aA aB aC aD aE aF aG aH aI aJ aK aL aM aN aO aP aQ aR aS aT aU aV aW aX aY aZ bA bB bC bD bE bF bG bH bI bJ bK bL bM bN bO bP bQ bR bS bT bU bV bW bX bY bZ cA cB cC cD cE cF cG cH cI cJ cK cL cM cN cO cP cQ cR cS cT cU cV cW cX cY cZ dA dB dC dD dE dF dG dH dI dJ dK dL dM dN dO dP dQ dR dS dT dU dV dW dX dY dZ eA eB eC eD eE eF eG eH eI eJ eK eL eM eN eO eP eQ eR eS eT eU eV eW eX eY eZ fA fB fC fD fE fF fG fH fI fJ fK fL fM fN fO fP fQ fR fS fT fU fV fW fX fY fZ gA gB gC gD gE gF gG gH gI gJ gK gL gM gN gO gP : Value} {w : World} {r : _} (h : s97M1 aA aB aC aG aH aI aJ w = some r) : s97J1 [aA,aB,aC,aD,aE,aF,aG,aH,aI,aJ,aK,aL,aM,aN,aO,aP,aQ,aR,aS,aT,aU,aV,aW,aX,aY,aZ,bA,bB,bC,bD,bE,bF,bG,bH,bI,bJ,bK,bL,bM,bN,bO,bP,bQ,bR,bS,bT,bU,bV,bW,bX,bY,bZ,cA,cB,cC,cD,cE,cF,cG,cH,cI,cJ,cK,cL,cM,cN,cO,cP,cQ,cR,cS,cT,cU,cV,cW,cX,cY,cZ,dA,dB,dC,dD,dE,dF,dG,dH,dI,dJ,dK,dL,dM,dN,dO,dP,dQ,dR,dS,dT,dU,dV,dW,dX,dY,dZ,eA,eB,eC,eD,eE,eF,eG,eH,eI,eJ,eK,eL,eM,eN,eO,eP,eQ,eR,eS,eT,eU,eV,eW,eX,eY,eZ,fA,fB,fC,fD,fE,fF,fG,fH,fI,fJ,fK,fL,fM,fN,fO,fP,fQ,fR,fS,fT,fU,fV,fW,fX,fY,fZ,gA,gB,gC,gD,gE,gF,gG,gH,gI,gJ,gK,gL,gM,gN,gO,gP] [] w = some r :=
  ((s97J1eq aA aB aC aD aE aF aG aH aI aJ aK aL aM aN aO aP aQ aR aS aT aU aV aW aX aY aZ bA bB bC bD bE bF bG bH bI bJ bK bL bM bN bO bP bQ bR bS bT bU bV bW bX bY bZ cA cB cC cD cE cF cG cH cI cJ cK cL cM cN cO cP cQ cR cS cT cU cV cW cX cY cZ dA dB dC dD dE dF dG dH dI dJ dK dL dM dN dO dP dQ dR dS dT dU dV dW dX dY dZ eA eB eC eD eE eF eG eH eI eJ eK eL eM eN eO eP eQ eR eS eT eU eV eW eX eY eZ fA fB fC fD fE fF fG fH fI fJ fK fL fM fN fO fP fQ fR fS fT fU fV fW fX fY fZ gA gB gC gD gE gF gG gH gI gJ gK gL gM gN gO gP w).trans ((Ev.bind_mono fun (v38 : Value) => (condK_mono (s97J2of) (Ev.bind_mono fun (v39 : Value) => (condK_mono (s97J2of) (Ev.bind_mono fun (v40 : Value) => (Ev.bind_mono fun (v41 : Value) => (Ev.bind_mono fun (v42 : Value) => (s97J2of)))))))) h))
set_option maxRecDepth 100000 in
theorem s97J0eq (aA aB aC aD aE aF aG aH aI aJ aK aL aM aN aO aP aQ aR aS aT aU aV aW aX aY aZ bA bB bC bD bE bF bG bH bI bJ bK bL bM bN bO bP bQ bR bS bT bU bV bW bX bY bZ cA cB cC cD cE cF cG cH cI cJ cK cL cM cN cO cP cQ cR cS cT cU cV cW cX cY cZ dA dB dC dD dE dF dG dH dI dJ dK dL dM dN dO dP dQ dR dS dT dU dV dW dX dY dZ eA eB eC eD eE eF eG eH eI eJ eK eL eM eN eO eP eQ eR eS eT eU eV eW eX eY eZ fA fB fC fD fE fF fG fH fI fJ fK fL fM fN fO fP fQ fR fS fT fU fV fW fX fY fZ gA gB gC gD gE gF gG gH gI gJ gK gL gM gN gO gP : Value) (w : World) : s97J0 [aA,aB,aC,aD,aE,aF,aG,aH,aI,aJ,aK,aL,aM,aN,aO,aP,aQ,aR,aS,aT,aU,aV,aW,aX,aY,aZ,bA,bB,bC,bD,bE,bF,bG,bH,bI,bJ,bK,bL,bM,bN,bO,bP,bQ,bR,bS,bT,bU,bV,bW,bX,bY,bZ,cA,cB,cC,cD,cE,cF,cG,cH,cI,cJ,cK,cL,cM,cN,cO,cP,cQ,cR,cS,cT,cU,cV,cW,cX,cY,cZ,dA,dB,dC,dD,dE,dF,dG,dH,dI,dJ,dK,dL,dM,dN,dO,dP,dQ,dR,dS,dT,dU,dV,dW,dX,dY,dZ,eA,eB,eC,eD,eE,eF,eG,eH,eI,eJ,eK,eL,eM,eN,eO,eP,eQ,eR,eS,eT,eU,eV,eW,eX,eY,eZ,fA,fB,fC,fD,fE,fF,fG,fH,fI,fJ,fK,fL,fM,fN,fO,fP,fQ,fR,fS,fT,fU,fV,fW,fX,fY,fZ,gA,gB,gC,gD,gE,gF,gG,gH,gI,gJ,gK,gL,gM,gN,gO,gP] [] w = s97M0raw aA aB aC aD aE aF aG aH aI aJ aK aL aM aN aO aP aQ aR aS aT aU aV aW aX aY aZ bA bB bC bD bE bF bG bH bI bJ bK bL bM bN bO bP bQ bR bS bT bU bV bW bX bY bZ cA cB cC cD cE cF cG cH cI cJ cK cL cM cN cO cP cQ cR cS cT cU cV cW cX cY cZ dA dB dC dD dE dF dG dH dI dJ dK dL dM dN dO dP dQ dR dS dT dU dV dW dX dY dZ eA eB eC eD eE eF eG eH eI eJ eK eL eM eN eO eP eQ eR eS eT eU eV eW eX eY eZ fA fB fC fD fE fF fG fH fI fJ fK fL fM fN fO fP fQ fR fS fT fU fV fW fX fY fZ gA gB gC gD gE gF gG gH gI gJ gK gL gM gN gO gP w := (show s97J0 [aA,aB,aC,aD,aE,aF,aG,aH,aI,aJ,aK,aL,aM,aN,aO,aP,aQ,aR,aS,aT,aU,aV,aW,aX,aY,aZ,bA,bB,bC,bD,bE,bF,bG,bH,bI,bJ,bK,bL,bM,bN,bO,bP,bQ,bR,bS,bT,bU,bV,bW,bX,bY,bZ,cA,cB,cC,cD,cE,cF,cG,cH,cI,cJ,cK,cL,cM,cN,cO,cP,cQ,cR,cS,cT,cU,cV,cW,cX,cY,cZ,dA,dB,dC,dD,dE,dF,dG,dH,dI,dJ,dK,dL,dM,dN,dO,dP,dQ,dR,dS,dT,dU,dV,dW,dX,dY,dZ,eA,eB,eC,eD,eE,eF,eG,eH,eI,eJ,eK,eL,eM,eN,eO,eP,eQ,eR,eS,eT,eU,eV,eW,eX,eY,eZ,fA,fB,fC,fD,fE,fF,fG,fH,fI,fJ,fK,fL,fM,fN,fO,fP,fQ,fR,fS,fT,fU,fV,fW,fX,fY,fZ,gA,gB,gC,gD,gE,gF,gG,gH,gI,gJ,gK,gL,gM,gN,gO,gP] [] w = evK Tryd.prog 97 none (nav [1, 1, 1, 1, 1] (bodyOf Tryd.f97)) none _ ⟨[aA,aB,aC,aD,aE,aF,aG,aH,aI,aJ,aK,aL,aM,aN,aO,aP,aQ,aR,aS,aT,aU,aV,aW,aX,aY,aZ,bA,bB,bC,bD,bE,bF,bG,bH,bI,bJ,bK,bL,bM,bN,bO,bP,bQ,bR,bS,bT,bU,bV,bW,bX,bY,bZ,cA,cB,cC,cD,cE,cF,cG,cH,cI,cJ,cK,cL,cM,cN,cO,cP,cQ,cR,cS,cT,cU,cV,cW,cX,cY,cZ,dA,dB,dC,dD,dE,dF,dG,dH,dI,dJ,dK,dL,dM,dN,dO,dP,dQ,dR,dS,dT,dU,dV,dW,dX,dY,dZ,eA,eB,eC,eD,eE,eF,eG,eH,eI,eJ,eK,eL,eM,eN,eO,eP,eQ,eR,eS,eT,eU,eV,eW,eX,eY,eZ,fA,fB,fC,fD,fE,fF,fG,fH,fI,fJ,fK,fL,fM,fN,fO,fP,fQ,fR,fS,fT,fU,fV,fW,fX,fY,fZ,gA,gB,gC,gD,gE,gF,gG,gH,gI,gJ,gK,gL,gM,gN,gO,gP].toArray, []⟩ w (leaveK Tryd.prog Tryd.f97) from by kernel_rfl).trans (by kernel_rfl)
set_option maxRecDepth 100000 in
theorem s97J0of {aA aB aC aD aE aF aG aH aI aJ aK aL aM aN aO aP aQ aR aS aT aU aV aW aX aY aZ bA bB bC bD bE bF bG bH bI bJ bK bL bM bN bO bP bQ bR bS bT bU bV bW bX bY bZ cA cB cC cD cE cF cG cH cI cJ cK cL cM cN cO cP cQ cR cS cT cU cV cW cX cY cZ dA dB dC dD dE dF dG dH dI dJ dK dL dM dN dO dP dQ dR dS dT dU dV dW dX dY dZ eA eB eC eD eE eF eG eH eI eJ eK eL eM eN eO eP eQ eR eS eT eU eV eW eX eY eZ fA fB fC fD fE fF fG fH fI fJ fK fL fM fN fO fP fQ fR fS fT fU fV fW fX fY fZ gA gB gC gD gE gF gG gH gI gJ gK gL gM gN gO gP : Value} {w : World} {r : _} (h : s97M0 aA aB aC aG aH aI aJ w = some r) : s97J0 [aA,aB,aC,aD,aE,aF,aG,aH,aI,aJ,aK,aL,aM,aN,aO,aP,aQ,aR,aS,aT,aU,aV,aW,aX,aY,aZ,bA,bB,bC,bD,bE,bF,bG,bH,bI,bJ,bK,bL,bM,bN,bO,bP,bQ,bR,bS,bT,bU,bV,bW,bX,bY,bZ,cA,cB,cC,cD,cE,cF,cG,cH,cI,cJ,cK,cL,cM,cN,cO,cP,cQ,cR,cS,cT,cU,cV,cW,cX,cY,cZ,dA,dB,dC,dD,dE,dF,dG,dH,dI,dJ,dK,dL,dM,dN,dO,dP,dQ,dR,dS,dT,dU,dV,dW,dX,dY,dZ,eA,eB,eC,eD,eE,eF,eG,eH,eI,eJ,eK,eL,eM,eN,eO,eP,eQ,eR,eS,eT,eU,eV,eW,eX,eY,eZ,fA,fB,fC,fD,fE,fF,fG,fH,fI,fJ,fK,fL,fM,fN,fO,fP,fQ,fR,fS,fT,fU,fV,fW,fX,fY,fZ,gA,gB,gC,gD,gE,gF,gG,gH,gI,gJ,gK,gL,gM,gN,gO,gP] [] w = some r :=
  ((s97J0eq aA aB aC aD aE aF aG aH aI aJ aK aL aM aN aO aP aQ aR aS aT aU aV aW aX aY aZ bA bB bC bD bE bF bG bH bI bJ bK bL bM bN bO bP bQ bR bS bT bU bV bW bX bY bZ cA cB cC cD cE cF cG cH cI cJ cK cL cM cN cO cP cQ cR cS cT cU cV cW cX cY cZ dA dB dC dD dE dF dG dH dI dJ dK dL dM dN dO dP dQ dR dS dT dU dV dW dX dY dZ eA eB eC eD eE eF eG eH eI eJ eK eL eM eN eO eP eQ eR eS eT eU eV eW eX eY eZ fA fB fC fD fE fF fG fH fI fJ fK fL fM fN fO fP fQ fR fS fT fU fV fW fX fY fZ gA gB gC gD gE gF gG gH gI gJ gK gL gM gN gO gP w).trans ((Ev.bind_mono fun (v33 : Value) => (condK_mono (s97J1of) (Ev.bind_mono fun (v34 : Value) => (Ev.bind_mono fun (v35 : Value) => (Ev.bind_mono fun (v36 : Value) => (condK_mono id (s97J1of))))))) h))
theorem s97eq (x0 x1 x2 : Value) (w : World) : evK Tryd.prog 97 none (bodyOf Tryd.f97) none _ { tmps := (([x0, x1, x2] : List Value) ++ List.replicate (172 - 3) undef).toArray, defers := [] } w (leaveK Tryd.prog Tryd.f97) = s97raw x0 x1 x2 w := by kernel_rfl
set_option maxRecDepth 100000 in
theorem c97 {x0 x1 x2 : Value} {w : World} {r : Value × World} (h : s97 x0 x1 x2 w = some r) : C Tryd.prog 97 #[x0, x1, x2] w = some r :=
  C_ev follows_all drawLaw (by kernel_rfl) Tryd.func97 (by rfl) ((s97eq x0 x1 x2 w).trans (show s97raw x0 x1 x2 w = some r from (Ev.bind_mono fun (v1 : Value) => (condK_mono id (Ev.bind_mono fun (v3 : Value) => (Ev.bind_mono fun (v4 : Value) => (Ev.bind_mono fun (v5 : Value) => (Ev.bind_mono fun (v6 : Value) => (condK_mono (s97J0of) (Ev.bind_mono fun (v7 : Value) => (condK_mono (Ev.bind_mono fun (v8 : Value) => (Ev.bind_mono fun (v9 : Value) => (condK_mono (Ev.bind_mono fun (v10 : Value) => (Ev.bind_mono fun (v11 : Value) => (Ev.bind_mono fun (v12 : Value) => (Ev.bind_mono fun (r13 : Value × World) => (Ev.bind_mono fun (v14 : Value) => (Ev.bind_mono fun (v15 : Value) => (condK_mono (Ev.bind_mono fun (v16 : Value) => (s97J0of)) (Ev.bind_mono fun (v17 : Value) => (Ev.bind_mono fun (v18 : Value) => (Ev.bind_mono fun (v19 : Value) => (Ev.bind_mono fun (r20 : Value × World) => (Ev.bind_mono fun (v21 : Value) => (Ev.bind_mono fun (v22 : Value) => (condK_mono (Ev.bind_mono fun (v23 : Value) => (s97J0of)) (Ev.bind_mono fun (v24 : Value) => (Ev.bind_mono fun (v25 : Value) => (Ev.bind_mono fun (v26 : Value) => (Ev.bind_mono fun (r27 : Value × World) => (Ev.bind_mono fun (v28 : Value) => (Ev.bind_mono fun (v29 : Value) => (condK_mono (Ev.bind_mono fun (v30 : Value) => (s97J0of)) (Ev.bind_mono fun (v31 : Value) => (s97J0of))))))))))))))))))))))) (s97J0of)))) id))))))))) h))
theorem e97 {x0 x1 x2 : Value} {w : World} {Q : Value × World → Prop} (h : Brings (s97 x0 x1 x2 w) Q) : Brings (Xcall Tryd.prog (Value.func (Fn.func 97) #[] #[]) #[x0, x1, x2] w) Q :=
  h.call (Xcall_fn Tryd.func97 (by decide +kernel) (by rfl) _ _ _ w) fun _ h => c97 h

end Go.Proofs.YtphokckbcmiddaaDoor
