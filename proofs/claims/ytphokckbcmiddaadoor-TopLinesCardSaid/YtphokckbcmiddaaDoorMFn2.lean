/- The functions of the program, by their texts. -/
import Derived.Test.YtphokckbcmiddaaDoorMFn1
namespace Go.Proofs.YtphokckbcmiddaaDoor
open Go Go.Ev
open Go.Proofs
def bs22870f : ByteArray := ⟨(List.toArray (List.append (List.append [48, 48, 48, 49, 48, 50, 48, 51, 48, 52, 48, 53, 48, 54, 48, 55, 48, 56, 48, 57, 49, 48, 49, 49, 49, 50, 49, 51, 49, 52, 49, 53, 49, 54, 49, 55, 49, 56, 49, 57, 50, 48, 50, 49, 50, 50, 50, 51, 50, 52] [50, 53, 50, 54, 50, 55, 50, 56, 50, 57, 51, 48, 51, 49, 51, 50, 51, 51, 51, 52, 51, 53, 51, 54, 51, 55, 51, 56, 51, 57, 52, 48, 52, 49, 52, 50, 52, 51, 52, 52, 52, 53, 52, 54, 52, 55, 52, 56, 52, 57]) (List.append [53, 48, 53, 49, 53, 50, 53, 51, 53, 52, 53, 53, 53, 54, 53, 55, 53, 56, 53, 57, 54, 48, 54, 49, 54, 50, 54, 51, 54, 52, 54, 53, 54, 54, 54, 55, 54, 56, 54, 57, 55, 48, 55, 49, 55, 50, 55, 51, 55, 52] [55, 53, 55, 54, 55, 55, 55, 56, 55, 57, 56, 48, 56, 49, 56, 50, 56, 51, 56, 52, 56, 53, 56, 54, 56, 55, 56, 56, 56, 57, 57, 48, 57, 49, 57, 50, 57, 51, 57, 52, 57, 53, 57, 54, 57, 55, 57, 56, 57, 57])))⟩
variable {aA aB aC aD aE aF aG aH aI aJ aK aL aM aN aO aP aQ aR aS aT aU aV aW aX aY aZ bA bB bC bD bE bF bG bH bI bJ bK bL bM bN bO bP bQ bR bS bT bU bV bW bX bY bZ cA cB cC cD cE cF cG cH cI cJ cK cL cM cN cO cP cQ cR cS cT cU cV cW cX cY : Value}
/-! internal/strconv.Atoi -/
noncomputable def s63K0 : Exit → Act → World → Option (Value × World) := seqK (fun a w => evK Tryd.prog 63 none (nav [1, 1] (bodyOf Tryd.f63)) none _ a w (leaveK Tryd.prog Tryd.f63)) (leaveK Tryd.prog Tryd.f63)
noncomputable def s63J0 (s : List Value) (d : List Deferred) (w : World) : Option (Value × World) := s63K0 .normal ⟨s.toArray, d⟩ w
noncomputable def s63K1 : Exit → Act → World → Option (Value × World) := seqK (fun a w => evK Tryd.prog 63 none (nav [1, 1, 1] (bodyOf Tryd.f63)) none _ a w (leaveK Tryd.prog Tryd.f63)) (leaveK Tryd.prog Tryd.f63)
noncomputable def s63J1 (s : List Value) (d : List Deferred) (w : World) : Option (Value × World) := s63K1 .normal ⟨s.toArray, d⟩ w
noncomputable def s63K2 : Exit → Act → World → Option (Value × World) := seqK (fun a w => evK Tryd.prog 63 none (nav [1, 1, 0, 1] (bodyOf Tryd.f63)) none _ a w s63K1) s63K1
noncomputable def s63J2 (s : List Value) (d : List Deferred) (w : World) : Option (Value × World) := s63K2 .normal ⟨s.toArray, d⟩ w
noncomputable def s63K3 : Exit → Act → World → Option (Value × World) := seqK (fun a w => evK Tryd.prog 63 none (nav [1, 1, 0, 1, 0, 1, 1] (bodyOf Tryd.f63)) none _ a w s63K1) s63K1
noncomputable def s63J3 (s : List Value) (d : List Deferred) (w : World) : Option (Value × World) := s63K3 .normal ⟨s.toArray, d⟩ w
noncomputable def s63K4 : Exit → Act → World → Option (Value × World) := seqK (fun a w => evK Tryd.prog 63 none (nav [1, 1, 0, 1, 0, 1, 0, 1] (bodyOf Tryd.f63)) none _ a w s63K3) s63K3
noncomputable def s63J4 (s : List Value) (d : List Deferred) (w : World) : Option (Value × World) := s63K4 .normal ⟨s.toArray, d⟩ w
noncomputable def s63K5 : Exit → Act → World → Option (Value × World) := seqK (fun a w => evK Tryd.prog 63 none (nav [1, 1, 0, 1, 0, 1, 1, 1, 1] (bodyOf Tryd.f63)) none _ a w s63K1) s63K1
noncomputable def s63J5 (s : List Value) (d : List Deferred) (w : World) : Option (Value × World) := s63K5 .normal ⟨s.toArray, d⟩ w
noncomputable def s63K6 : Exit → Act → World → Option (Value × World) := seqK (fun a w => evK Tryd.prog 63 none (nav [1, 1, 0, 1, 0, 1, 1, 1, 0, 1] (bodyOf Tryd.f63)) none _ a w s63K5) s63K5
noncomputable def s63J6 (s : List Value) (d : List Deferred) (w : World) : Option (Value × World) := s63K6 .normal ⟨s.toArray, d⟩ w
noncomputable def s63K7 : Exit → Act → World → Option (Value × World) := seqK (fun a w => evK Tryd.prog 63 none (nav [1, 1, 0, 1, 0, 1, 1, 1] (bodyOf Tryd.f63)) none _ a w s63K1) s63K1
noncomputable def s63K8 : Exit → Act → World → Option (Value × World) := seqK (fun a w => evK Tryd.prog 63 none (nav [1, 1, 0, 1, 0, 1, 0, 1, 0, 1] (bodyOf Tryd.f63)) none _ a w s63K3) s63K3
noncomputable def s63J7 (s : List Value) (d : List Deferred) (w : World) : Option (Value × World) := s63K8 .normal ⟨s.toArray, d⟩ w
noncomputable def s63K9 : Exit → Act → World → Option (Value × World) := seqK (fun a w => evK Tryd.prog 63 none (nav [1, 1, 0, 1, 0, 1, 1, 1, 1, 1] (bodyOf Tryd.f63)) none _ a w s63K1) s63K1
noncomputable def s63K10 : Exit → Act → World → Option (Value × World) := seqK (fun a w => evK Tryd.prog 63 none (nav [1, 1, 0, 1, 0, 1, 1, 1, 1, 0, 1] (bodyOf Tryd.f63)) none _ a w s63K9) s63K9
noncomputable def s63J8 (s : List Value) (d : List Deferred) (w : World) : Option (Value × World) := s63K10 .normal ⟨s.toArray, d⟩ w
noncomputable def s63K11 : Exit → Act → World → Option (Value × World) := blockK 0 s63K5
noncomputable def s63J9 (s : List Value) (d : List Deferred) (w : World) : Option (Value × World) := s63K11 .normal ⟨s.toArray, d⟩ w
noncomputable def s63L10 (s : List Value) (d : List Deferred) (w : World) : Option (Value × World) := loopN Tryd.prog 63 none (nav [1, 1, 0, 1, 0, 1, 1, 1, 0, 1, 0, 0] (bodyOf Tryd.f63)) s63K11 s d w
noncomputable def s63K12 : Exit → Act → World → Option (Value × World) := seqK (fun a w => evK Tryd.prog 63 none (nav [1, 1, 0, 1, 0, 1, 0, 1, 0, 1, 1] (bodyOf Tryd.f63)) none _ a w s63K3) s63K3
noncomputable def s63J11 (s : List Value) (d : List Deferred) (w : World) : Option (Value × World) := s63K12 .normal ⟨s.toArray, d⟩ w
noncomputable def s63K13 : Exit → Act → World → Option (Exit × List Value × World) := seqK (fun a w => evK Tryd.prog 63 none (nav [1, 1, 0, 1, 0, 1, 1, 1, 0, 1, 0, 0, 1] (bodyOf Tryd.f63)) none _ a w (projK [2, 3, 5, 6, 47, 48, 49])) (projK [2, 3, 5, 6, 47, 48, 49])
noncomputable def s63J12 (s : List Value) (d : List Deferred) (w : World) : Option (Exit × List Value × World) := s63K13 .normal ⟨s.toArray, d⟩ w
noncomputable def s63K14 : Exit → Act → World → Option (Exit × List Value × World) := seqK (fun a w => evK Tryd.prog 63 none (nav [1, 1, 0, 1, 0, 1, 1, 1, 0, 1, 0, 0, 1, 1] (bodyOf Tryd.f63)) none _ a w (projK [2, 3, 5, 6, 47, 48, 49])) (projK [2, 3, 5, 6, 47, 48, 49])
noncomputable def s63J13 (s : List Value) (d : List Deferred) (w : World) : Option (Exit × List Value × World) := s63K14 .normal ⟨s.toArray, d⟩ w
noncomputable def s63K15 : Exit → Act → World → Option (Exit × List Value × World) := seqK (fun a w => evK Tryd.prog 63 none (nav [1, 1, 0, 1, 0, 1, 1, 1, 0, 1, 0, 0, 1, 1, 1] (bodyOf Tryd.f63)) none _ a w (projK [2, 3, 5, 6, 47, 48, 49])) (projK [2, 3, 5, 6, 47, 48, 49])
noncomputable def s63J14 (s : List Value) (d : List Deferred) (w : World) : Option (Exit × List Value × World) := s63K15 .normal ⟨s.toArray, d⟩ w
noncomputable def s63K16 : Exit → Act → World → Option (Exit × List Value × World) := blockK 1 s63K15
noncomputable def s63J15 (s : List Value) (d : List Deferred) (w : World) : Option (Exit × List Value × World) := s63K16 .normal ⟨s.toArray, d⟩ w
noncomputable def s63K17 : Exit → Act → World → Option (Exit × List Value × World) := seqK (fun a w => evK Tryd.prog 63 none (nav [1, 1, 0, 1, 0, 1, 1, 1, 0, 1, 0, 0, 1, 1, 0, 0, 1] (bodyOf Tryd.f63)) none _ a w s63K16) s63K16
noncomputable def s63J16 (s : List Value) (d : List Deferred) (w : World) : Option (Exit × List Value × World) := s63K17 .normal ⟨s.toArray, d⟩ w
noncomputable def s63K18 : Exit → Act → World → Option (Exit × List Value × World) := seqK (fun a w => evK Tryd.prog 63 none (nav [1, 1, 0, 1, 0, 1, 1, 1, 0, 1, 0, 0, 1, 1, 0, 0, 1, 1] (bodyOf Tryd.f63)) none _ a w s63K16) s63K16
noncomputable def s63J17 (s : List Value) (d : List Deferred) (w : World) : Option (Exit × List Value × World) := s63K18 .normal ⟨s.toArray, d⟩ w
noncomputable def s63K19 : Exit → Act → World → Option (Exit × List Value × World) := seqK (fun a w => evK Tryd.prog 63 none (nav [1, 1, 0, 1, 0, 1, 1, 1, 0, 1, 0, 0, 1, 1, 0, 0, 1, 1, 1] (bodyOf Tryd.f63)) none _ a w s63K16) s63K16
noncomputable def s63J18 (s : List Value) (d : List Deferred) (w : World) : Option (Exit × List Value × World) := s63K19 .normal ⟨s.toArray, d⟩ w
noncomputable def s63K20 : Exit → Act → World → Option (Exit × List Value × World) := seqK (fun a w => evK Tryd.prog 63 none (nav [1, 1, 0, 1, 0, 1, 1, 1, 0, 1, 0, 0, 1, 1, 0, 0, 1, 1, 0, 1] (bodyOf Tryd.f63)) none _ a w s63K19) s63K19
noncomputable def s63J19 (s : List Value) (d : List Deferred) (w : World) : Option (Exit × List Value × World) := s63K20 .normal ⟨s.toArray, d⟩ w
noncomputable def s63M14 (s2 s3 s5 s6 s47 s48 s49 : Value) (w : World) : Option (Exit × List Value × World) :=
  (Qbin Tryd.prog .add 3 s49 (Value.int .i64 1)).bind fun v560 =>
  some (Exit.normal, [s2, s3, s5, s6, s47, s48, v560], w)
noncomputable def s63M15raw (aA aB aC aD aE aF aG aH aI aJ aK aL aM aN aO aP aQ aR aS aT aU aV aW aX aY aZ bA bB bC bD bE bF bG bH bI bJ bK bL bM bN bO bP bQ bR bS bT bU bV bW bX bY bZ cA cB cC cD cE cF cG cH cI cJ cK cL cM cN cO cP cQ cR cS cT cU cV cW cX cY : Value) (w : World) : Option (Exit × List Value × World) :=
  s63J14 [aA,aB,aC,aD,aE,aF,aG,aH,aI,aJ,aK,aL,aM,aN,aO,aP,aQ,aR,aS,aT,aU,aV,aW,aX,aY,aZ,bA,bB,bC,bD,bE,bF,bG,bH,bI,bJ,bK,bL,bM,bN,bO,bP,bQ,bR,bS,bT,bU,bV,bW,bX,bY,bZ,cA,cB,cC,cD,cE,cF,cG,cH,cI,cJ,cK,cL,cM,cN,cO,cP,cQ,cR,cS,cT,cU,cV,cW,cX,cY] [] w
noncomputable def s63M15 (s2 s3 s5 s6 s47 s48 s49 : Value) (w : World) : Option (Exit × List Value × World) :=
  s63M14 s2 s3 s5 s6 s47 s48 s49 w
noncomputable def s63M18raw (aA aB aC aD aE aF aG aH aI aJ aK aL aM aN aO aP aQ aR aS aT aU aV aW aX aY aZ bA bB bC bD bE bF bG bH bI bJ bK bL bM bN bO bP bQ bR bS bT bU bV bW bX bY bZ cA cB cC cD cE cF _ _ _ _ _ cL cM cN cO cP cQ cR cS cT cU cV cW cX cY : Value) (w : World) : Option (Exit × List Value × World) :=
  (Qbin Tryd.prog .mul 3 aG (Value.int .i64 10)).bind fun v565 =>
  (Qconv Tryd.prog 5 3 aI).bind fun v566 =>
  (Qbin Tryd.prog .add 3 v565 v566).bind fun v567 =>
  s63J15 [aA,aB,aC,aD,aE,aF, v567, aH,aI,aJ,aK,aL,aM,aN,aO,aP,aQ,aR,aS,aT,aU,aV,aW,aX,aY,aZ,bA,bB,bC,bD,bE,bF,bG,bH,bI,bJ,bK,bL,bM,bN,bO,bP,bQ,bR,bS,bT,bU,bV,bW,bX,bY,bZ,cA,cB,cC,cD,cE,cF,aG, v565, aI, v566, v567, cL,cM,cN,cO,cP,cQ,cR,cS,cT,cU,cV,cW,cX,cY] [] w
noncomputable def s63M18 (aA aB aC aD aE aF aG aH : Value) (w : World) : Option (Exit × List Value × World) :=
  (Qbin Tryd.prog .mul 3 aD (Value.int .i64 10)).bind fun v565 =>
  (Qconv Tryd.prog 5 3 aE).bind fun v566 =>
  (Qbin Tryd.prog .add 3 v565 v566).bind fun v567 =>
  s63M15 aA aB aC v567 aF aG aH w
noncomputable def s63M19raw (aA aB aC aD aE aF aG aH aI aJ aK aL aM aN aO aP aQ aR aS aT aU aV aW aX aY aZ bA bB bC bD bE bF bG bH bI bJ bK bL bM bN bO bP bQ bR bS bT bU bV bW bX bY bZ cA cB cC cD cE cF cG cH cI cJ cK cL cM cN cO cP cQ cR cS cT cU cV cW cX cY : Value) (w : World) : Option (Exit × List Value × World) :=
  condK cE (
    (Qiface Tryd.prog 137 (Value.int .i64 2)).bind fun v568 =>
    some (Exit.ret, [(Value.int .i64 0), v568, aF,aG,bV,bW,bX], w)
  ) (
    s63J18 [aA,aB,aC,aD,aE,aF,aG,aH,aI,aJ,aK,aL,aM,aN,aO,aP,aQ,aR,aS,aT,aU,aV,aW,aX,aY,aZ,bA,bB,bC,bD,bE,bF,bG,bH,bI,bJ,bK,bL,bM,bN,bO,bP,bQ,bR,bS,bT,bU,bV,bW,bX,bY,bZ,cA,cB,cC,cD,cE,cF,cG,cH,cI,cJ,cK,cL,cM,cN,cO,cP,cQ,cR,cS,cT,cU,cV,cW,cX,cY] [] w
  )
noncomputable def s63M19 (aA aB aC aD aE aF aG aH aI : Value) (w : World) : Option (Exit × List Value × World) :=
  condK aI (
    (Qiface Tryd.prog 137 (Value.int .i64 2)).bind fun v568 =>
    some (Exit.ret, [(Value.int .i64 0), v568, aC,aD,aF,aG,aH], w)
  ) (
    s63M18 aA aB aC aD aE aF aG aH w
  )
noncomputable def s63M17raw (aA aB aC aD aE aF aG aH aI aJ aK aL aM aN aO aP aQ aR aS aT aU aV aW aX aY aZ bA bB bC bD bE bF bG bH bI bJ bK bL bM bN bO bP bQ bR bS bT bU bV bW bX bY bZ cA cB cC _ _ cF cG cH cI cJ cK cL cM cN cO cP cQ cR cS cT cU cV cW cX cY : Value) (w : World) : Option (Exit × List Value × World) :=
  (Qbin Tryd.prog .gtr 5 aI (Value.int .u8 9)).bind fun v563 =>
  s63J19 [aA,aB,aC,aD,aE,aF,aG,aH,aI,aJ,aK,aL,aM,aN,aO,aP,aQ,aR,aS,aT,aU,aV,aW,aX,aY,aZ,bA,bB,bC,bD,bE,bF,bG,bH,bI,bJ,bK,bL,bM,bN,bO,bP,bQ,bR,bS,bT,bU,bV,bW,bX,bY,bZ,cA,cB,cC,aI, v563, cF,cG,cH,cI,cJ,cK,cL,cM,cN,cO,cP,cQ,cR,cS,cT,cU,cV,cW,cX,cY] [] w
noncomputable def s63M17 (aA aB aC aD aE aF aG aH : Value) (w : World) : Option (Exit × List Value × World) :=
  (Qbin Tryd.prog .gtr 5 aE (Value.int .u8 9)).bind fun v563 =>
  s63M19 aA aB aC aD aE aF aG aH v563 w
noncomputable def s63M16raw (aA aB aC aD aE aF aG aH aI aJ aK aL aM aN aO aP aQ aR aS aT aU aV aW aX aY aZ bA bB bC bD bE bF bG bH bI bJ bK bL bM bN bO bP bQ bR bS bT bU bV bW bX bY bZ cA _ _ cD cE cF cG cH cI cJ cK cL cM cN cO cP cQ cR cS cT cU cV cW cX cY : Value) (w : World) : Option (Exit × List Value × World) :=
  (Qbin Tryd.prog .sub 5 aI (Value.int .u8 48)).bind fun v561 =>
  s63J17 [aA,aB,aC,aD,aE,aF,aG,aH, v561, aJ,aK,aL,aM,aN,aO,aP,aQ,aR,aS,aT,aU,aV,aW,aX,aY,aZ,bA,bB,bC,bD,bE,bF,bG,bH,bI,bJ,bK,bL,bM,bN,bO,bP,bQ,bR,bS,bT,bU,bV,bW,bX,bY,bZ,cA,aI, v561, cD,cE,cF,cG,cH,cI,cJ,cK,cL,cM,cN,cO,cP,cQ,cR,cS,cT,cU,cV,cW,cX,cY] [] w
noncomputable def s63M16 (aA aB aC aD aE aF aG aH : Value) (w : World) : Option (Exit × List Value × World) :=
  (Qbin Tryd.prog .sub 5 aE (Value.int .u8 48)).bind fun v561 =>
  s63M17 aA aB aC aD v561 aF aG aH w
noncomputable def s63M13raw (aA aB aC aD aE aF aG aH _ aJ aK aL aM aN aO aP aQ aR aS aT aU aV aW aX aY aZ bA bB bC bD bE bF bG bH bI bJ bK bL bM bN bO bP bQ bR bS bT bU bV bW bX bY _ _ cB cC cD cE cF cG cH cI cJ cK cL cM cN cO cP cQ cR cS cT cU cV cW cX cY : Value) (w : World) : Option (Exit × List Value × World) :=
  (QindexAddr Tryd.prog 22 bV bX w).bind fun v558 =>
  (Qload Tryd.prog 5 v558 w).bind fun v559 =>
  s63J16 [aA,aB,aC,aD,aE,aF,aG,aH, v559, aJ,aK,aL,aM,aN,aO,aP,aQ,aR,aS,aT,aU,aV,aW,aX,aY,aZ,bA,bB,bC,bD,bE,bF,bG,bH,bI,bJ,bK,bL,bM,bN,bO,bP,bQ,bR,bS,bT,bU,bV,bW,bX,bY, v558, v559, cB,cC,cD,cE,cF,cG,cH,cI,cJ,cK,cL,cM,cN,cO,cP,cQ,cR,cS,cT,cU,cV,cW,cX,cY] [] w
noncomputable def s63M13 (s2 s3 s5 s6 s47 s48 s49 : Value) (w : World) : Option (Exit × List Value × World) :=
  (QindexAddr Tryd.prog 22 s47 s49 w).bind fun v558 =>
  (Qload Tryd.prog 5 v558 w).bind fun v559 =>
  s63M16 s2 s3 s5 s6 v559 s47 s48 s49 w
noncomputable def s63M12raw (aA aB aC aD aE aF aG aH aI aJ aK aL aM aN aO aP aQ aR aS aT aU aV aW aX aY aZ bA bB bC bD bE bF bG bH bI bJ bK bL bM bN bO bP bQ bR bS bT bU bV bW bX bY bZ cA cB cC cD cE cF cG cH cI cJ cK cL cM cN cO cP cQ cR cS cT cU cV cW cX cY : Value) (w : World) : Option (Exit × List Value × World) :=
  condK bY (
    s63J13 [aA,aB,aC,aD,aE,aF,aG,aH,aI,aJ,aK,aL,aM,aN,aO,aP,aQ,aR,aS,aT,aU,aV,aW,aX,aY,aZ,bA,bB,bC,bD,bE,bF,bG,bH,bI,bJ,bK,bL,bM,bN,bO,bP,bQ,bR,bS,bT,bU,bV,bW,bX,bY,bZ,cA,cB,cC,cD,cE,cF,cG,cH,cI,cJ,cK,cL,cM,cN,cO,cP,cQ,cR,cS,cT,cU,cV,cW,cX,cY] [] w
  ) (
    some ((Exit.exit 0), [aC,aD,aF,aG,bV,bW,bX], w)
  )
noncomputable def s63M12 (aA aB aC aD aE aF aG aH : Value) (w : World) : Option (Exit × List Value × World) :=
  condK aH (
    s63M13 aA aB aC aD aE aF aG w
  ) (
    some ((Exit.exit 0), [aA,aB,aC,aD,aE,aF,aG], w)
  )
noncomputable def s63M8 (s6 s66 : Value) (w : World) : Option (Value × World) :=
  condK s66 (
    (Qun .neg s6).bind fun v553 =>
    some ((Value.tuple #[v553, Value.nilIface]), w)
  ) (
    some ((Value.tuple #[s6, Value.nilIface]), w)
  )
noncomputable def s63M5raw (aA aB aC aD aE aF aG aH aI aJ aK aL aM aN aO aP aQ aR aS aT aU aV aW aX aY aZ bA bB bC bD bE bF bG bH bI bJ bK bL bM bN bO bP bQ bR bS bT bU bV bW bX bY bZ cA cB cC cD cE cF cG cH cI cJ cK cL _ _ _ cP cQ cR cS cT cU cV cW cX cY : Value) (w : World) : Option (Value × World) :=
  (Qindex Tryd.prog 9 aF (Value.int .i64 0) w).bind fun v545 =>
  (Qbin Tryd.prog .eql 5 v545 (Value.int .u8 45)).bind fun v546 =>
  s63J8 [aA,aB,aC,aD,aE,aF,aG,aH,aI,aJ,aK,aL,aM,aN,aO,aP,aQ,aR,aS,aT,aU,aV,aW,aX,aY,aZ,bA,bB,bC,bD,bE,bF,bG,bH,bI,bJ,bK,bL,bM,bN,bO,bP,bQ,bR,bS,bT,bU,bV,bW,bX,bY,bZ,cA,cB,cC,cD,cE,cF,cG,cH,cI,cJ,cK,cL,aF, v545, v546, cP,cQ,cR,cS,cT,cU,cV,cW,cX,cY] [] w
noncomputable def s63M5 (s5 s6 : Value) (w : World) : Option (Value × World) :=
  (Qindex Tryd.prog 9 s5 (Value.int .i64 0) w).bind fun v545 =>
  (Qbin Tryd.prog .eql 5 v545 (Value.int .u8 45)).bind fun v546 =>
  s63M8 s6 v546 w
noncomputable def s63B10raw (g : Nat → Value) (d : List Deferred) : List Value → World → Option (Exit × List Value × World)
  | [x2, x3, x5, x6, x47, x48, x49], w =>
    (Qbin Tryd.prog .lss 3 x49 x48).bind fun v556 =>
    s63J12 [g 0,g 1, x2, x3, g 4, x5, x6, g 7,g 8,g 9,g 10,g 11,g 12,g 13,g 14,g 15,g 16,g 17,g 18,g 19,g 20,g 21,g 22,g 23,g 24,g 25,g 26,g 27,g 28,g 29,g 30,g 31,g 32,g 33,g 34,g 35,g 36,g 37,g 38,g 39,g 40,g 41,g 42,g 43,g 44,g 45,g 46, x47, x48, x49, v556, g 51,g 52,g 53,g 54,g 55,g 56,g 57,g 58,g 59,g 60,g 61,g 62,g 63,g 64,g 65,g 66,g 67,g 68,g 69,g 70,g 71,g 72,g 73,g 74,g 75,g 76] d w
  | _, _ => none
noncomputable def s63B10 : List Value → World → Option (Exit × List Value × World)
  | [x2, x3, x5, x6, x47, x48, x49], w =>
    (Qbin Tryd.prog .lss 3 x49 x48).bind fun v556 =>
    s63M12 x2 x3 x5 x6 x47 x48 x49 v556 w
  | _, _ => none
noncomputable def s63R10 : Exit → List Value → World → Option (Value × World)
  | (Exit.exit 0), [_, _, x5, x6, _, _, _], w =>
    s63M5 x5 x6 w
  | Exit.ret, [x2, x3, _, _, _, _, _], w =>
    some ((Value.tuple #[x2, x3]), w)
  | _, _, _ => none
noncomputable def s63R10x0raw (x2 x3 x5 x6 x47 x48 x49 : Value) (g : Nat → Value) (w : World) : Option (Value × World) :=
  s63J5 [g 0,g 1, x2, x3, g 4, x5, x6, g 7,g 8,g 9,g 10,g 11,g 12,g 13,g 14,g 15,g 16,g 17,g 18,g 19,g 20,g 21,g 22,g 23,g 24,g 25,g 26,g 27,g 28,g 29,g 30,g 31,g 32,g 33,g 34,g 35,g 36,g 37,g 38,g 39,g 40,g 41,g 42,g 43,g 44,g 45,g 46, x47, x48, x49, g 50,g 51,g 52,g 53,g 54,g 55,g 56,g 57,g 58,g 59,g 60,g 61,g 62,g 63,g 64,g 65,g 66,g 67,g 68,g 69,g 70,g 71,g 72,g 73,g 74,g 75,g 76] [] w
noncomputable def s63M9raw (aA aB aC aD aE aF aG aH aI aJ aK aL aM aN aO aP aQ aR aS aT aU aV aW aX aY aZ bA bB bC bD bE bF bG bH bI bJ bK bL bM bN bO bP bQ bR bS bT bU bV bW bX bY bZ cA cB cC cD cE cF cG cH cI cJ cK cL cM cN cO cP cQ cR cS cT cU cV cW cX cY : Value) (w : World) : Option (Value × World) :=
  s63J5 [aA,aB,aC,aD,aE,aF,aG,aH,aI,aJ,aK,aL,aM,aN,aO,aP,aQ,aR,aS,aT,aU,aV,aW,aX,aY,aZ,bA,bB,bC,bD,bE,bF,bG,bH,bI,bJ,bK,bL,bM,bN,bO,bP,bQ,bR,bS,bT,bU,bV,bW,bX,bY,bZ,cA,cB,cC,cD,cE,cF,cG,cH,cI,cJ,cK,cL,cM,cN,cO,cP,cQ,cR,cS,cT,cU,cV,cW,cX,cY] [] w
noncomputable def s63M9 (s5 s6 : Value) (w : World) : Option (Value × World) :=
  s63M5 s5 s6 w
noncomputable def s63M6raw (aA aB aC aD aE aF aG aH aI aJ aK aL aM aN aO aP aQ aR aS aT aU aV aW aX aY aZ bA bB bC bD bE bF bG bH bI bJ bK bL bM bN bO bP bQ bR bS bT bU bV bW bX bY bZ cA cB cC cD cE cF cG cH cI cJ cK cL cM cN cO cP cQ cR cS cT cU cV cW cX cY : Value) (w : World) : Option (Value × World) :=
  s63L10 [aA,aB,aC,aD,aE,aF,aG,aH,aI,aJ,aK,aL,aM,aN,aO,aP,aQ,aR,aS,aT,aU,aV,aW,aX,aY,aZ,bA,bB,bC,bD,bE,bF,bG,bH,bI,bJ,bK,bL,bM,bN,bO,bP,bQ,bR,bS,bT,bU,bV,bW,bX,bY,bZ,cA,cB,cC,cD,cE,cF,cG,cH,cI,cJ,cK,cL,cM,cN,cO,cP,cQ,cR,cS,cT,cU,cV,cW,cX,cY] [] w
noncomputable def s63M6 (s2 s3 s5 s6 s47 s48 s49 : Value) (w : World) : Option (Value × World) :=
  loopR s63B10 s63R10 [s2, s3, s5, s6, s47, s48, s49] w
noncomputable def s63M3raw (aA aB aC aD aE aF _ aH aI aJ aK aL aM aN aO aP aQ aR aS aT aU aV aW aX aY aZ bA bB bC bD bE bF bG bH bI bJ bK bL bM bN bO bP bQ bR bS bT _ _ _ _ bY bZ cA cB cC cD cE cF cG cH cI cJ cK cL cM cN cO cP cQ cR cS cT cU cV cW cX cY : Value) (w : World) : Option (Value × World) :=
  (Xconv Tryd.prog 9 22 aA w).bind fun r542 =>
  (Qlen Tryd.prog #[22] 3 #[r542.1] r542.2).bind fun v543 =>
  s63J6 [aA,aB,aC,aD,aE,aF, (Value.int .i64 0), aH,aI,aJ,aK,aL,aM,aN,aO,aP,aQ,aR,aS,aT,aU,aV,aW,aX,aY,aZ,bA,bB,bC,bD,bE,bF,bG,bH,bI,bJ,bK,bL,bM,bN,bO,bP,bQ,bR,bS,bT,aA, r542.1, v543, (Value.int .i64 0), bY,bZ,cA,cB,cC,cD,cE,cF,cG,cH,cI,cJ,cK,cL,cM,cN,cO,cP,cQ,cR,cS,cT,cU,cV,cW,cX,cY] [] r542.2
noncomputable def s63M3 (s0 s2 s3 s5 : Value) (w : World) : Option (Value × World) :=
  (Xconv Tryd.prog 9 22 s0 w).bind fun r542 =>
  (Qlen Tryd.prog #[22] 3 #[r542.1] r542.2).bind fun v543 =>
  s63M6 s2 s3 s5 (Value.int .i64 0) r542.1 v543 (Value.int .i64 0) r542.2
noncomputable def s63M11raw (aA aB aC aD aE aF aG aH aI aJ aK aL aM aN aO aP aQ aR aS aT aU aV aW aX aY aZ bA bB bC bD bE bF bG bH bI bJ bK bL bM bN bO bP bQ bR bS bT bU bV bW bX bY bZ cA cB cC cD cE cF cG cH cI cJ cK cL cM cN cO cP cQ cR cS cT cU cV cW cX cY : Value) (w : World) : Option (Value × World) :=
  condK bS (
    (Qiface Tryd.prog 137 (Value.int .i64 2)).bind fun v557 =>
    some ((Value.tuple #[(Value.int .i64 0), v557]), w)
  ) (
    s63J3 [aA,aB,aC,aD,aE,aF,aG,aH,aI,aJ,aK,aL,aM,aN,aO,aP,aQ,aR,aS,aT,aU,aV,aW,aX,aY,aZ,bA,bB,bC,bD,bE,bF,bG,bH,bI,bJ,bK,bL,bM,bN,bO,bP,bQ,bR,bS,bT,bU,bV,bW,bX,bY,bZ,cA,cB,cC,cD,cE,cF,cG,cH,cI,cJ,cK,cL,cM,cN,cO,cP,cQ,cR,cS,cT,cU,cV,cW,cX,cY] [] w
  )
noncomputable def s63M11 (s0 s2 s3 s5 s44 : Value) (w : World) : Option (Value × World) :=
  condK s44 (
    (Qiface Tryd.prog 137 (Value.int .i64 2)).bind fun v557 =>
    some ((Value.tuple #[(Value.int .i64 0), v557]), w)
  ) (
    s63M3 s0 s2 s3 s5 w
  )
noncomputable def s63M7raw (aA aB aC aD aE aF aG aH aI aJ aK aL aM aN aO aP aQ aR aS aT aU aV aW aX aY aZ bA bB bC bD bE bF bG bH bI bJ bK bL bM bN bO bP _ _ _ bT bU bV bW bX bY bZ cA cB cC cD cE cF cG cH cI cJ cK cL cM cN cO cP cQ cR cS cT cU cV cW cX cY : Value) (w : World) : Option (Value × World) :=
  (Qlen Tryd.prog #[9] 3 #[aA] w).bind fun v549 =>
  (Qbin Tryd.prog .lss 3 v549 (Value.int .i64 1)).bind fun v550 =>
  s63J11 [aA,aB,aC,aD,aE,aF,aG,aH,aI,aJ,aK,aL,aM,aN,aO,aP,aQ,aR,aS,aT,aU,aV,aW,aX,aY,aZ,bA,bB,bC,bD,bE,bF,bG,bH,bI,bJ,bK,bL,bM,bN,bO,bP,aA, v549, v550, bT,bU,bV,bW,bX,bY,bZ,cA,cB,cC,cD,cE,cF,cG,cH,cI,cJ,cK,cL,cM,cN,cO,cP,cQ,cR,cS,cT,cU,cV,cW,cX,cY] [] w
noncomputable def s63M7 (s0 s2 s3 s5 : Value) (w : World) : Option (Value × World) :=
  (Qlen Tryd.prog #[9] 3 #[s0] w).bind fun v549 =>
  (Qbin Tryd.prog .lss 3 v549 (Value.int .i64 1)).bind fun v550 =>
  s63M11 s0 s2 s3 s5 v550 w
noncomputable def s63M4raw (aA aB aC aD aE aF aG aH aI aJ aK aL aM aN aO aP aQ aR aS aT aU aV aW aX aY aZ bA bB bC bD bE bF bG bH bI bJ bK bL bM bN bO bP bQ bR bS bT bU bV bW bX bY bZ cA cB cC cD cE cF cG cH cI cJ cK cL cM cN cO cP cQ cR cS cT cU cV cW cX cY : Value) (w : World) : Option (Value × World) :=
  condK bN (
    (Qslice Tryd.prog 9 aA (some (Value.int .i64 1)) none none w).bind fun v544 =>
    s63J7 [v544, aB,aC,aD,aE,aF,aG,aH,aI,aJ,aK,aL,aM,aN,aO,aP,aQ,aR,aS,aT,aU,aV,aW,aX,aY,aZ,bA,bB,bC,bD,bE,bF,bG,bH,bI,bJ,bK,bL,bM,bN,aA, v544, bQ,bR,bS,bT,bU,bV,bW,bX,bY,bZ,cA,cB,cC,cD,cE,cF,cG,cH,cI,cJ,cK,cL,cM,cN,cO,cP,cQ,cR,cS,cT,cU,cV,cW,cX,cY] [] w
  ) (
    s63J3 [aA,aB,aC,aD,aE,aF,aG,aH,aI,aJ,aK,aL,aM,aN,aO,aP,aQ,aR,aS,aT,aU,aV,aW,aX,aY,aZ,bA,bB,bC,bD,bE,bF,bG,bH,bI,bJ,bK,bL,bM,bN,bO,bP,bQ,bR,bS,bT,bU,bV,bW,bX,bY,bZ,cA,cB,cC,cD,cE,cF,cG,cH,cI,cJ,cK,cL,cM,cN,cO,cP,cQ,cR,cS,cT,cU,cV,cW,cX,cY] [] w
  )
noncomputable def s63M4 (s0 s2 s3 s5 s39 : Value) (w : World) : Option (Value × World) :=
  condK s39 (
    (Qslice Tryd.prog 9 s0 (some (Value.int .i64 1)) none none w).bind fun v544 =>
    s63M7 v544 s2 s3 s5 w
  ) (
    s63M3 s0 s2 s3 s5 w
  )
noncomputable def s63M1 (s0 : Value) (w : World) : Option (Value × World) :=
  (Xcall Tryd.prog (Value.func (Fn.func 80) #[] #[]) #[s0, (Value.int .i64 10), (Value.int .i64 0)] w).bind fun r534 =>
  (Qext r534.1 0).bind fun v535 =>
  (Qext r534.1 1).bind fun v536 =>
  some ((Value.tuple #[v535, v536]), r534.2)
noncomputable def s63M2raw (aA aB aC aD aE aF aG aH aI aJ aK aL aM aN aO aP aQ aR aS aT aU aV aW aX aY aZ bA bB bC bD bE bF bG bH bI bJ bK bL bM bN bO bP bQ bR bS bT bU bV bW bX bY bZ cA cB cC cD cE cF cG cH cI cJ cK cL cM cN cO cP cQ cR cS cT cU cV cW cX cY : Value) (w : World) : Option (Value × World) :=
  condK bE (
    (Qindex Tryd.prog 9 aA (Value.int .i64 0) w).bind fun v537 =>
    (Qbin Tryd.prog .eql 5 v537 (Value.int .u8 45)).bind fun v538 =>
    (guardQ v538 false (Qindex Tryd.prog 9 (gv (isB v538 false) aA) (Value.int .i64 0) w)).bind fun v539 =>
    (guardQ v538 false (Qbin Tryd.prog .eql 5 v539 (Value.int .u8 43))).bind fun v540 =>
    (Qpick v538 (Value.bool true) v540).bind fun v541 =>
    s63J4 [aA,aB,aC,aD,aE,aA,aG,aH,aI,aJ,aK,aL,aM,aN,aO,aP,aQ,aR,aS,aT,aU,aV,aW,aX,aY,aZ,bA,bB,bC,bD,bE,aA,aA, v537, v538, v538, (gv (isB v538 false) aA), v539, v540, v541, bO,bP,bQ,bR,bS,bT,bU,bV,bW,bX,bY,bZ,cA,cB,cC,cD,cE,cF,cG,cH,cI,cJ,cK,cL,cM,cN,cO,cP,cQ,cR,cS,cT,cU,cV,cW,cX,cY] [] w
  ) (
    s63J1 [aA,aB,aC,aD,aE,aF,aG,aH,aI,aJ,aK,aL,aM,aN,aO,aP,aQ,aR,aS,aT,aU,aV,aW,aX,aY,aZ,bA,bB,bC,bD,bE,bF,bG,bH,bI,bJ,bK,bL,bM,bN,bO,bP,bQ,bR,bS,bT,bU,bV,bW,bX,bY,bZ,cA,cB,cC,cD,cE,cF,cG,cH,cI,cJ,cK,cL,cM,cN,cO,cP,cQ,cR,cS,cT,cU,cV,cW,cX,cY] [] w
  )
noncomputable def s63M2 (s0 s2 s3 s30 : Value) (w : World) : Option (Value × World) :=
  condK s30 (
    (Qindex Tryd.prog 9 s0 (Value.int .i64 0) w).bind fun v537 =>
    (Qbin Tryd.prog .eql 5 v537 (Value.int .u8 45)).bind fun v538 =>
    (guardQ v538 false (Qindex Tryd.prog 9 (gv (isB v538 false) s0) (Value.int .i64 0) w)).bind fun v539 =>
    (guardQ v538 false (Qbin Tryd.prog .eql 5 v539 (Value.int .u8 43))).bind fun v540 =>
    (Qpick v538 (Value.bool true) v540).bind fun v541 =>
    s63M4 s0 s2 s3 s0 v541 w
  ) (
    s63M1 s0 w
  )
noncomputable def s63M0raw (aA aB aC aD aE aF aG aH aI aJ aK aL aM _ _ _ _ _ _ _ _ _ _ _ _ _ _ _ _ _ _ bF bG bH bI bJ bK bL bM bN bO bP bQ bR bS bT bU bV bW bX bY bZ cA cB cC cD cE cF cG cH cI cJ cK cL cM cN cO cP cQ cR cS cT cU cV cW cX cY : Value) (w : World) : Option (Value × World) :=
  (guardQ (Value.bool false) true (Qbin Tryd.prog .lss 3 (Value.int .i64 0) (gv (isB (Value.bool false) true) aE))).bind fun v516 =>
  (guardQ (gv (isB (Value.bool false) true) v516) true (Qbin Tryd.prog .lss 3 (gv (isB (gv (isB (Value.bool false) true) v516) true) aE) (Value.int .i64 10))).bind fun v517 =>
  (guardQ (Value.bool false) true (Qpick (gv (isB (Value.bool false) true) v516) v517 (Value.bool false))).bind fun v518 =>
  (Qpick (Value.bool false) v518 (Value.bool false)).bind fun v519 =>
  (guardQ (gv (isB v519 false) (Value.bool true)) true (Qbin Tryd.prog .lss 3 (Value.int .i64 0) (gv (isB (gv (isB v519 false) (Value.bool true)) true) aE))).bind fun v520 =>
  (guardQ (gv (isB (gv (isB v519 false) (Value.bool true)) true) v520) true (Qbin Tryd.prog .lss 3 (gv (isB (gv (isB (gv (isB v519 false) (Value.bool true)) true) v520) true) aE) (Value.int .i64 19))).bind fun v521 =>
  (guardQ (gv (isB v519 false) (Value.bool true)) true (Qpick (gv (isB (gv (isB v519 false) (Value.bool true)) true) v520) v521 (Value.bool false))).bind fun v522 =>
  (guardQ v519 false (Qpick (gv (isB v519 false) (Value.bool true)) v522 (Value.bool false))).bind fun v523 =>
  (Qpick v519 (Value.bool true) v523).bind fun v524 =>
  s63J2 [aA,aB,aC,aD,aE,aF,aG,aH,aI,aJ,aK,aL,aM, (Value.bool false), (gv (isB (Value.bool false) true) aE), v516, (gv (isB (Value.bool false) true) v516), (gv (isB (gv (isB (Value.bool false) true) v516) true) aE), v517, v518, v519, v519, (gv (isB v519 false) (Value.bool true)), (gv (isB (gv (isB v519 false) (Value.bool true)) true) aE), v520, (gv (isB (gv (isB v519 false) (Value.bool true)) true) v520), (gv (isB (gv (isB (gv (isB v519 false) (Value.bool true)) true) v520) true) aE), v521, v522, v523, v524, bF,bG,bH,bI,bJ,bK,bL,bM,bN,bO,bP,bQ,bR,bS,bT,bU,bV,bW,bX,bY,bZ,cA,cB,cC,cD,cE,cF,cG,cH,cI,cJ,cK,cL,cM,cN,cO,cP,cQ,cR,cS,cT,cU,cV,cW,cX,cY] [] w
noncomputable def s63M0 (s0 s2 s3 s4 : Value) (w : World) : Option (Value × World) :=
  (guardQ (Value.bool false) true (Qbin Tryd.prog .lss 3 (Value.int .i64 0) (gv (isB (Value.bool false) true) s4))).bind fun v516 =>
  (guardQ (gv (isB (Value.bool false) true) v516) true (Qbin Tryd.prog .lss 3 (gv (isB (gv (isB (Value.bool false) true) v516) true) s4) (Value.int .i64 10))).bind fun v517 =>
  (guardQ (Value.bool false) true (Qpick (gv (isB (Value.bool false) true) v516) v517 (Value.bool false))).bind fun v518 =>
  (Qpick (Value.bool false) v518 (Value.bool false)).bind fun v519 =>
  (guardQ (gv (isB v519 false) (Value.bool true)) true (Qbin Tryd.prog .lss 3 (Value.int .i64 0) (gv (isB (gv (isB v519 false) (Value.bool true)) true) s4))).bind fun v520 =>
  (guardQ (gv (isB (gv (isB v519 false) (Value.bool true)) true) v520) true (Qbin Tryd.prog .lss 3 (gv (isB (gv (isB (gv (isB v519 false) (Value.bool true)) true) v520) true) s4) (Value.int .i64 19))).bind fun v521 =>
  (guardQ (gv (isB v519 false) (Value.bool true)) true (Qpick (gv (isB (gv (isB v519 false) (Value.bool true)) true) v520) v521 (Value.bool false))).bind fun v522 =>
  (guardQ v519 false (Qpick (gv (isB v519 false) (Value.bool true)) v522 (Value.bool false))).bind fun v523 =>
  (Qpick v519 (Value.bool true) v523).bind fun v524 =>
  s63M2 s0 s2 s3 v524 w
noncomputable def s63raw (x0 : Value) (w : World) : Option (Value × World) :=
  (Qlen Tryd.prog #[9] 3 #[x0] w).bind fun v515 =>
  s63J0 [x0, undef, (Value.int .i64 0), Value.nilIface, v515, undef, undef, undef, undef, undef, undef, x0, v515, undef, undef, undef, undef, undef, undef, undef, undef, undef, undef, undef, undef, undef, undef, undef, undef, undef, undef, undef, undef, undef, undef, undef, undef, undef, undef, undef, undef, undef, undef, undef, undef, undef, undef, undef, undef, undef, undef, undef, undef, undef, undef, undef, undef, undef, undef, undef, undef, undef, undef, undef, undef, undef, undef, undef, undef, undef, undef, undef, undef, undef, undef, undef, undef] [] w
noncomputable def s63 (x0 : Value) (w : World) : Option (Value × World) :=
  (Qlen Tryd.prog #[9] 3 #[x0] w).bind fun v515 =>
  s63M0 x0 (Value.int .i64 0) Value.nilIface v515 w
set_option maxRecDepth 100000 in
theorem s63J14eq (w : World) : s63J14 [aA,aB,aC,aD,aE,aF,aG,aH,aI,aJ,aK,aL,aM,aN,aO,aP,aQ,aR,aS,aT,aU,aV,aW,aX,aY,aZ,bA,bB,bC,bD,bE,bF,bG,bH,bI,bJ,bK,bL,bM,bN,bO,bP,bQ,bR,bS,bT,bU,bV,bW,bX,bY,bZ,cA,cB,cC,cD,cE,cF,cG,cH,cI,cJ,cK,cL,cM,cN,cO,cP,cQ,cR,cS,cT,cU,cV,cW,cX,cY] [] w = s63M14 aC aD aF aG bV bW bX w := (show _ = evK Tryd.prog 63 none (nav [1, 1, 0, 1, 0, 1, 1, 1, 0, 1, 0, 0, 1, 1, 1] (bodyOf Tryd.f63)) none _ ⟨[aA,aB,aC,aD,aE,aF,aG,aH,aI,aJ,aK,aL,aM,aN,aO,aP,aQ,aR,aS,aT,aU,aV,aW,aX,aY,aZ,bA,bB,bC,bD,bE,bF,bG,bH,bI,bJ,bK,bL,bM,bN,bO,bP,bQ,bR,bS,bT,bU,bV,bW,bX,bY,bZ,cA,cB,cC,cD,cE,cF,cG,cH,cI,cJ,cK,cL,cM,cN,cO,cP,cQ,cR,cS,cT,cU,cV,cW,cX,cY].toArray, []⟩ w (projK [2, 3, 5, 6, 47, 48, 49]) from by kernel_rfl).trans (by kernel_rfl)
set_option maxRecDepth 100000 in
theorem s63J14of {w : World} {r : _} (h : s63M14 aC aD aF aG bV bW bX w = some r) : s63J14 [aA,aB,aC,aD,aE,aF,aG,aH,aI,aJ,aK,aL,aM,aN,aO,aP,aQ,aR,aS,aT,aU,aV,aW,aX,aY,aZ,bA,bB,bC,bD,bE,bF,bG,bH,bI,bJ,bK,bL,bM,bN,bO,bP,bQ,bR,bS,bT,bU,bV,bW,bX,bY,bZ,cA,cB,cC,cD,cE,cF,cG,cH,cI,cJ,cK,cL,cM,cN,cO,cP,cQ,cR,cS,cT,cU,cV,cW,cX,cY] [] w = some r :=
  ((s63J14eq w).trans h)
set_option maxRecDepth 100000 in
theorem s63J15eq (w : World) : s63J15 [aA,aB,aC,aD,aE,aF,aG,aH,aI,aJ,aK,aL,aM,aN,aO,aP,aQ,aR,aS,aT,aU,aV,aW,aX,aY,aZ,bA,bB,bC,bD,bE,bF,bG,bH,bI,bJ,bK,bL,bM,bN,bO,bP,bQ,bR,bS,bT,bU,bV,bW,bX,bY,bZ,cA,cB,cC,cD,cE,cF,cG,cH,cI,cJ,cK,cL,cM,cN,cO,cP,cQ,cR,cS,cT,cU,cV,cW,cX,cY] [] w = s63M15raw aA aB aC aD aE aF aG aH aI aJ aK aL aM aN aO aP aQ aR aS aT aU aV aW aX aY aZ bA bB bC bD bE bF bG bH bI bJ bK bL bM bN bO bP bQ bR bS bT bU bV bW bX bY bZ cA cB cC cD cE cF cG cH cI cJ cK cL cM cN cO cP cQ cR cS cT cU cV cW cX cY w := (show _ = evK Tryd.prog 63 none (nav [1, 1, 0, 1, 0, 1, 1, 1, 0, 1, 0, 0, 1, 1, 1] (bodyOf Tryd.f63)) none _ ⟨[aA,aB,aC,aD,aE,aF,aG,aH,aI,aJ,aK,aL,aM,aN,aO,aP,aQ,aR,aS,aT,aU,aV,aW,aX,aY,aZ,bA,bB,bC,bD,bE,bF,bG,bH,bI,bJ,bK,bL,bM,bN,bO,bP,bQ,bR,bS,bT,bU,bV,bW,bX,bY,bZ,cA,cB,cC,cD,cE,cF,cG,cH,cI,cJ,cK,cL,cM,cN,cO,cP,cQ,cR,cS,cT,cU,cV,cW,cX,cY].toArray, []⟩ w (projK [2, 3, 5, 6, 47, 48, 49]) from by kernel_rfl).trans (by kernel_rfl)
set_option maxRecDepth 100000 in
theorem s63J15of {w : World} {r : _} (h : s63M15 aC aD aF aG bV bW bX w = some r) : s63J15 [aA,aB,aC,aD,aE,aF,aG,aH,aI,aJ,aK,aL,aM,aN,aO,aP,aQ,aR,aS,aT,aU,aV,aW,aX,aY,aZ,bA,bB,bC,bD,bE,bF,bG,bH,bI,bJ,bK,bL,bM,bN,bO,bP,bQ,bR,bS,bT,bU,bV,bW,bX,bY,bZ,cA,cB,cC,cD,cE,cF,cG,cH,cI,cJ,cK,cL,cM,cN,cO,cP,cQ,cR,cS,cT,cU,cV,cW,cX,cY] [] w = some r :=
  ((s63J15eq w).trans ((s63J14of) h))
set_option maxRecDepth 100000 in
theorem s63J18eq (w : World) : s63J18 [aA,aB,aC,aD,aE,aF,aG,aH,aI,aJ,aK,aL,aM,aN,aO,aP,aQ,aR,aS,aT,aU,aV,aW,aX,aY,aZ,bA,bB,bC,bD,bE,bF,bG,bH,bI,bJ,bK,bL,bM,bN,bO,bP,bQ,bR,bS,bT,bU,bV,bW,bX,bY,bZ,cA,cB,cC,cD,cE,cF,cG,cH,cI,cJ,cK,cL,cM,cN,cO,cP,cQ,cR,cS,cT,cU,cV,cW,cX,cY] [] w = s63M18raw aA aB aC aD aE aF aG aH aI aJ aK aL aM aN aO aP aQ aR aS aT aU aV aW aX aY aZ bA bB bC bD bE bF bG bH bI bJ bK bL bM bN bO bP bQ bR bS bT bU bV bW bX bY bZ cA cB cC cD cE cF cG cH cI cJ cK cL cM cN cO cP cQ cR cS cT cU cV cW cX cY w := (show _ = evK Tryd.prog 63 none (nav [1, 1, 0, 1, 0, 1, 1, 1, 0, 1, 0, 0, 1, 1, 0, 0, 1, 1, 1] (bodyOf Tryd.f63)) none _ ⟨[aA,aB,aC,aD,aE,aF,aG,aH,aI,aJ,aK,aL,aM,aN,aO,aP,aQ,aR,aS,aT,aU,aV,aW,aX,aY,aZ,bA,bB,bC,bD,bE,bF,bG,bH,bI,bJ,bK,bL,bM,bN,bO,bP,bQ,bR,bS,bT,bU,bV,bW,bX,bY,bZ,cA,cB,cC,cD,cE,cF,cG,cH,cI,cJ,cK,cL,cM,cN,cO,cP,cQ,cR,cS,cT,cU,cV,cW,cX,cY].toArray, []⟩ w s63K16 from by kernel_rfl).trans (by kernel_rfl)
set_option maxRecDepth 100000 in
theorem s63J18of {w : World} {r : _} (h : s63M18 aC aD aF aG aI bV bW bX w = some r) : s63J18 [aA,aB,aC,aD,aE,aF,aG,aH,aI,aJ,aK,aL,aM,aN,aO,aP,aQ,aR,aS,aT,aU,aV,aW,aX,aY,aZ,bA,bB,bC,bD,bE,bF,bG,bH,bI,bJ,bK,bL,bM,bN,bO,bP,bQ,bR,bS,bT,bU,bV,bW,bX,bY,bZ,cA,cB,cC,cD,cE,cF,cG,cH,cI,cJ,cK,cL,cM,cN,cO,cP,cQ,cR,cS,cT,cU,cV,cW,cX,cY] [] w = some r :=
  ((s63J18eq w).trans ((Ev.bind_mono fun (_ : Value) => (Ev.bind_mono fun (_ : Value) => (Ev.bind_mono fun (_ : Value) => (s63J15of)))) h))
set_option maxRecDepth 100000 in
theorem s63J19eq (w : World) : s63J19 [aA,aB,aC,aD,aE,aF,aG,aH,aI,aJ,aK,aL,aM,aN,aO,aP,aQ,aR,aS,aT,aU,aV,aW,aX,aY,aZ,bA,bB,bC,bD,bE,bF,bG,bH,bI,bJ,bK,bL,bM,bN,bO,bP,bQ,bR,bS,bT,bU,bV,bW,bX,bY,bZ,cA,cB,cC,cD,cE,cF,cG,cH,cI,cJ,cK,cL,cM,cN,cO,cP,cQ,cR,cS,cT,cU,cV,cW,cX,cY] [] w = s63M19raw aA aB aC aD aE aF aG aH aI aJ aK aL aM aN aO aP aQ aR aS aT aU aV aW aX aY aZ bA bB bC bD bE bF bG bH bI bJ bK bL bM bN bO bP bQ bR bS bT bU bV bW bX bY bZ cA cB cC cD cE cF cG cH cI cJ cK cL cM cN cO cP cQ cR cS cT cU cV cW cX cY w := (show _ = evK Tryd.prog 63 none (nav [1, 1, 0, 1, 0, 1, 1, 1, 0, 1, 0, 0, 1, 1, 0, 0, 1, 1, 0, 1] (bodyOf Tryd.f63)) none _ ⟨[aA,aB,aC,aD,aE,aF,aG,aH,aI,aJ,aK,aL,aM,aN,aO,aP,aQ,aR,aS,aT,aU,aV,aW,aX,aY,aZ,bA,bB,bC,bD,bE,bF,bG,bH,bI,bJ,bK,bL,bM,bN,bO,bP,bQ,bR,bS,bT,bU,bV,bW,bX,bY,bZ,cA,cB,cC,cD,cE,cF,cG,cH,cI,cJ,cK,cL,cM,cN,cO,cP,cQ,cR,cS,cT,cU,cV,cW,cX,cY].toArray, []⟩ w s63K19 from by kernel_rfl).trans (by kernel_rfl)
set_option maxRecDepth 100000 in
theorem s63J19of {w : World} {r : _} (h : s63M19 aC aD aF aG aI bV bW bX cE w = some r) : s63J19 [aA,aB,aC,aD,aE,aF,aG,aH,aI,aJ,aK,aL,aM,aN,aO,aP,aQ,aR,aS,aT,aU,aV,aW,aX,aY,aZ,bA,bB,bC,bD,bE,bF,bG,bH,bI,bJ,bK,bL,bM,bN,bO,bP,bQ,bR,bS,bT,bU,bV,bW,bX,bY,bZ,cA,cB,cC,cD,cE,cF,cG,cH,cI,cJ,cK,cL,cM,cN,cO,cP,cQ,cR,cS,cT,cU,cV,cW,cX,cY] [] w = some r :=
  ((s63J19eq w).trans ((condK_mono id (s63J18of)) h))
theorem s63J17rg {β : Type} (K : Exit → Act → World → Option β) (w : World) : evK Tryd.prog 63 none (nav [1, 1, 0, 1, 0, 1, 1, 1, 0, 1, 0, 0, 1, 1, 0, 0, 1, 1, 0, 0] (bodyOf Tryd.f63)) none _ ⟨[aA,aB,aC,aD,aE,aF,aG,aH,aI,aJ,aK,aL,aM,aN,aO,aP,aQ,aR,aS,aT,aU,aV,aW,aX,aY,aZ,bA,bB,bC,bD,bE,bF,bG,bH,bI,bJ,bK,bL,bM,bN,bO,bP,bQ,bR,bS,bT,bU,bV,bW,bX,bY,bZ,cA,cB,cC,cD,cE,cF,cG,cH,cI,cJ,cK,cL,cM,cN,cO,cP,cQ,cR,cS,cT,cU,cV,cW,cX,cY].toArray, []⟩ w K =
    (Qbin Tryd.prog .gtr 5 aI (Value.int .u8 9)).bind fun v564 =>
    K Exit.normal ⟨[aA,aB,aC,aD,aE,aF,aG,aH,aI,aJ,aK,aL,aM,aN,aO,aP,aQ,aR,aS,aT,aU,aV,aW,aX,aY,aZ,bA,bB,bC,bD,bE,bF,bG,bH,bI,bJ,bK,bL,bM,bN,bO,bP,bQ,bR,bS,bT,bU,bV,bW,bX,bY,bZ,cA,cB,cC,aI, v564, cF,cG,cH,cI,cJ,cK,cL,cM,cN,cO,cP,cQ,cR,cS,cT,cU,cV,cW,cX,cY].toArray, []⟩ w := by kernel_rfl
set_option maxRecDepth 100000 in
theorem s63J17eq (w : World) : s63J17 [aA,aB,aC,aD,aE,aF,aG,aH,aI,aJ,aK,aL,aM,aN,aO,aP,aQ,aR,aS,aT,aU,aV,aW,aX,aY,aZ,bA,bB,bC,bD,bE,bF,bG,bH,bI,bJ,bK,bL,bM,bN,bO,bP,bQ,bR,bS,bT,bU,bV,bW,bX,bY,bZ,cA,cB,cC,cD,cE,cF,cG,cH,cI,cJ,cK,cL,cM,cN,cO,cP,cQ,cR,cS,cT,cU,cV,cW,cX,cY] [] w = s63M17raw aA aB aC aD aE aF aG aH aI aJ aK aL aM aN aO aP aQ aR aS aT aU aV aW aX aY aZ bA bB bC bD bE bF bG bH bI bJ bK bL bM bN bO bP bQ bR bS bT bU bV bW bX bY bZ cA cB cC cD cE cF cG cH cI cJ cK cL cM cN cO cP cQ cR cS cT cU cV cW cX cY w := (show _ = seqK (fun a w => evK Tryd.prog 63 none (nav [1, 1, 0, 1, 0, 1, 1, 1, 0, 1, 0, 0, 1, 1, 0, 0, 1, 1] (bodyOf Tryd.f63)) none _ a w s63K16) s63K16 .normal ⟨[aA,aB,aC,aD,aE,aF,aG,aH,aI,aJ,aK,aL,aM,aN,aO,aP,aQ,aR,aS,aT,aU,aV,aW,aX,aY,aZ,bA,bB,bC,bD,bE,bF,bG,bH,bI,bJ,bK,bL,bM,bN,bO,bP,bQ,bR,bS,bT,bU,bV,bW,bX,bY,bZ,cA,cB,cC,cD,cE,cF,cG,cH,cI,cJ,cK,cL,cM,cN,cO,cP,cQ,cR,cS,cT,cU,cV,cW,cX,cY].toArray, []⟩ w from by kernel_rfl).trans ((seqK_n _ _ _ _).trans ((show _ = evK Tryd.prog 63 none (nav [1, 1, 0, 1, 0, 1, 1, 1, 0, 1, 0, 0, 1, 1, 0, 0, 1, 1, 0, 0] (bodyOf Tryd.f63)) none _ ⟨[aA,aB,aC,aD,aE,aF,aG,aH,aI,aJ,aK,aL,aM,aN,aO,aP,aQ,aR,aS,aT,aU,aV,aW,aX,aY,aZ,bA,bB,bC,bD,bE,bF,bG,bH,bI,bJ,bK,bL,bM,bN,bO,bP,bQ,bR,bS,bT,bU,bV,bW,bX,bY,bZ,cA,cB,cC,cD,cE,cF,cG,cH,cI,cJ,cK,cL,cM,cN,cO,cP,cQ,cR,cS,cT,cU,cV,cW,cX,cY].toArray, []⟩ w s63K20 from by kernel_rfl).trans ((s63J17rg s63K20 w).trans (by kernel_rfl))))
set_option maxRecDepth 100000 in
theorem s63J17of {w : World} {r : _} (h : s63M17 aC aD aF aG aI bV bW bX w = some r) : s63J17 [aA,aB,aC,aD,aE,aF,aG,aH,aI,aJ,aK,aL,aM,aN,aO,aP,aQ,aR,aS,aT,aU,aV,aW,aX,aY,aZ,bA,bB,bC,bD,bE,bF,bG,bH,bI,bJ,bK,bL,bM,bN,bO,bP,bQ,bR,bS,bT,bU,bV,bW,bX,bY,bZ,cA,cB,cC,cD,cE,cF,cG,cH,cI,cJ,cK,cL,cM,cN,cO,cP,cQ,cR,cS,cT,cU,cV,cW,cX,cY] [] w = some r :=
  ((s63J17eq w).trans ((Ev.bind_mono fun (_ : Value) => (s63J19of)) h))
theorem s63J16rg {β : Type} (K : Exit → Act → World → Option β) (w : World) : evK Tryd.prog 63 none (nav [1, 1, 0, 1, 0, 1, 1, 1, 0, 1, 0, 0, 1, 1, 0, 0, 1, 0] (bodyOf Tryd.f63)) none _ ⟨[aA,aB,aC,aD,aE,aF,aG,aH,aI,aJ,aK,aL,aM,aN,aO,aP,aQ,aR,aS,aT,aU,aV,aW,aX,aY,aZ,bA,bB,bC,bD,bE,bF,bG,bH,bI,bJ,bK,bL,bM,bN,bO,bP,bQ,bR,bS,bT,bU,bV,bW,bX,bY,bZ,cA,cB,cC,cD,cE,cF,cG,cH,cI,cJ,cK,cL,cM,cN,cO,cP,cQ,cR,cS,cT,cU,cV,cW,cX,cY].toArray, []⟩ w K =
    (Qbin Tryd.prog .sub 5 aI (Value.int .u8 48)).bind fun v562 =>
    K Exit.normal ⟨[aA,aB,aC,aD,aE,aF,aG,aH, v562, aJ,aK,aL,aM,aN,aO,aP,aQ,aR,aS,aT,aU,aV,aW,aX,aY,aZ,bA,bB,bC,bD,bE,bF,bG,bH,bI,bJ,bK,bL,bM,bN,bO,bP,bQ,bR,bS,bT,bU,bV,bW,bX,bY,bZ,cA,aI, v562, cD,cE,cF,cG,cH,cI,cJ,cK,cL,cM,cN,cO,cP,cQ,cR,cS,cT,cU,cV,cW,cX,cY].toArray, []⟩ w := by kernel_rfl
set_option maxRecDepth 100000 in
theorem s63J16eq (w : World) : s63J16 [aA,aB,aC,aD,aE,aF,aG,aH,aI,aJ,aK,aL,aM,aN,aO,aP,aQ,aR,aS,aT,aU,aV,aW,aX,aY,aZ,bA,bB,bC,bD,bE,bF,bG,bH,bI,bJ,bK,bL,bM,bN,bO,bP,bQ,bR,bS,bT,bU,bV,bW,bX,bY,bZ,cA,cB,cC,cD,cE,cF,cG,cH,cI,cJ,cK,cL,cM,cN,cO,cP,cQ,cR,cS,cT,cU,cV,cW,cX,cY] [] w = s63M16raw aA aB aC aD aE aF aG aH aI aJ aK aL aM aN aO aP aQ aR aS aT aU aV aW aX aY aZ bA bB bC bD bE bF bG bH bI bJ bK bL bM bN bO bP bQ bR bS bT bU bV bW bX bY bZ cA cB cC cD cE cF cG cH cI cJ cK cL cM cN cO cP cQ cR cS cT cU cV cW cX cY w := (show _ = seqK (fun a w => evK Tryd.prog 63 none (nav [1, 1, 0, 1, 0, 1, 1, 1, 0, 1, 0, 0, 1, 1, 0, 0, 1] (bodyOf Tryd.f63)) none _ a w s63K16) s63K16 .normal ⟨[aA,aB,aC,aD,aE,aF,aG,aH,aI,aJ,aK,aL,aM,aN,aO,aP,aQ,aR,aS,aT,aU,aV,aW,aX,aY,aZ,bA,bB,bC,bD,bE,bF,bG,bH,bI,bJ,bK,bL,bM,bN,bO,bP,bQ,bR,bS,bT,bU,bV,bW,bX,bY,bZ,cA,cB,cC,cD,cE,cF,cG,cH,cI,cJ,cK,cL,cM,cN,cO,cP,cQ,cR,cS,cT,cU,cV,cW,cX,cY].toArray, []⟩ w from by kernel_rfl).trans ((seqK_n _ _ _ _).trans ((show _ = evK Tryd.prog 63 none (nav [1, 1, 0, 1, 0, 1, 1, 1, 0, 1, 0, 0, 1, 1, 0, 0, 1, 0] (bodyOf Tryd.f63)) none _ ⟨[aA,aB,aC,aD,aE,aF,aG,aH,aI,aJ,aK,aL,aM,aN,aO,aP,aQ,aR,aS,aT,aU,aV,aW,aX,aY,aZ,bA,bB,bC,bD,bE,bF,bG,bH,bI,bJ,bK,bL,bM,bN,bO,bP,bQ,bR,bS,bT,bU,bV,bW,bX,bY,bZ,cA,cB,cC,cD,cE,cF,cG,cH,cI,cJ,cK,cL,cM,cN,cO,cP,cQ,cR,cS,cT,cU,cV,cW,cX,cY].toArray, []⟩ w s63K18 from by kernel_rfl).trans ((s63J16rg s63K18 w).trans (by kernel_rfl))))
set_option maxRecDepth 100000 in
theorem s63J16of {w : World} {r : _} (h : s63M16 aC aD aF aG aI bV bW bX w = some r) : s63J16 [aA,aB,aC,aD,aE,aF,aG,aH,aI,aJ,aK,aL,aM,aN,aO,aP,aQ,aR,aS,aT,aU,aV,aW,aX,aY,aZ,bA,bB,bC,bD,bE,bF,bG,bH,bI,bJ,bK,bL,bM,bN,bO,bP,bQ,bR,bS,bT,bU,bV,bW,bX,bY,bZ,cA,cB,cC,cD,cE,cF,cG,cH,cI,cJ,cK,cL,cM,cN,cO,cP,cQ,cR,cS,cT,cU,cV,cW,cX,cY] [] w = some r :=
  ((s63J16eq w).trans ((Ev.bind_mono fun (_ : Value) => (s63J17of)) h))
set_option maxRecDepth 100000 in
theorem s63J13eq (w : World) : s63J13 [aA,aB,aC,aD,aE,aF,aG,aH,aI,aJ,aK,aL,aM,aN,aO,aP,aQ,aR,aS,aT,aU,aV,aW,aX,aY,aZ,bA,bB,bC,bD,bE,bF,bG,bH,bI,bJ,bK,bL,bM,bN,bO,bP,bQ,bR,bS,bT,bU,bV,bW,bX,bY,bZ,cA,cB,cC,cD,cE,cF,cG,cH,cI,cJ,cK,cL,cM,cN,cO,cP,cQ,cR,cS,cT,cU,cV,cW,cX,cY] [] w = s63M13raw aA aB aC aD aE aF aG aH aI aJ aK aL aM aN aO aP aQ aR aS aT aU aV aW aX aY aZ bA bB bC bD bE bF bG bH bI bJ bK bL bM bN bO bP bQ bR bS bT bU bV bW bX bY bZ cA cB cC cD cE cF cG cH cI cJ cK cL cM cN cO cP cQ cR cS cT cU cV cW cX cY w := (show _ = evK Tryd.prog 63 none (nav [1, 1, 0, 1, 0, 1, 1, 1, 0, 1, 0, 0, 1, 1] (bodyOf Tryd.f63)) none _ ⟨[aA,aB,aC,aD,aE,aF,aG,aH,aI,aJ,aK,aL,aM,aN,aO,aP,aQ,aR,aS,aT,aU,aV,aW,aX,aY,aZ,bA,bB,bC,bD,bE,bF,bG,bH,bI,bJ,bK,bL,bM,bN,bO,bP,bQ,bR,bS,bT,bU,bV,bW,bX,bY,bZ,cA,cB,cC,cD,cE,cF,cG,cH,cI,cJ,cK,cL,cM,cN,cO,cP,cQ,cR,cS,cT,cU,cV,cW,cX,cY].toArray, []⟩ w (projK [2, 3, 5, 6, 47, 48, 49]) from by kernel_rfl).trans (by kernel_rfl)
set_option maxRecDepth 100000 in
theorem s63J13of {w : World} {r : _} (h : s63M13 aC aD aF aG bV bW bX w = some r) : s63J13 [aA,aB,aC,aD,aE,aF,aG,aH,aI,aJ,aK,aL,aM,aN,aO,aP,aQ,aR,aS,aT,aU,aV,aW,aX,aY,aZ,bA,bB,bC,bD,bE,bF,bG,bH,bI,bJ,bK,bL,bM,bN,bO,bP,bQ,bR,bS,bT,bU,bV,bW,bX,bY,bZ,cA,cB,cC,cD,cE,cF,cG,cH,cI,cJ,cK,cL,cM,cN,cO,cP,cQ,cR,cS,cT,cU,cV,cW,cX,cY] [] w = some r :=
  ((s63J13eq w).trans ((Ev.bind_mono fun (_ : Value) => (Ev.bind_mono fun (_ : Value) => (s63J16of))) h))
set_option maxRecDepth 100000 in
theorem s63J12eq (w : World) : s63J12 [aA,aB,aC,aD,aE,aF,aG,aH,aI,aJ,aK,aL,aM,aN,aO,aP,aQ,aR,aS,aT,aU,aV,aW,aX,aY,aZ,bA,bB,bC,bD,bE,bF,bG,bH,bI,bJ,bK,bL,bM,bN,bO,bP,bQ,bR,bS,bT,bU,bV,bW,bX,bY,bZ,cA,cB,cC,cD,cE,cF,cG,cH,cI,cJ,cK,cL,cM,cN,cO,cP,cQ,cR,cS,cT,cU,cV,cW,cX,cY] [] w = s63M12raw aA aB aC aD aE aF aG aH aI aJ aK aL aM aN aO aP aQ aR aS aT aU aV aW aX aY aZ bA bB bC bD bE bF bG bH bI bJ bK bL bM bN bO bP bQ bR bS bT bU bV bW bX bY bZ cA cB cC cD cE cF cG cH cI cJ cK cL cM cN cO cP cQ cR cS cT cU cV cW cX cY w := (show _ = evK Tryd.prog 63 none (nav [1, 1, 0, 1, 0, 1, 1, 1, 0, 1, 0, 0, 1] (bodyOf Tryd.f63)) none _ ⟨[aA,aB,aC,aD,aE,aF,aG,aH,aI,aJ,aK,aL,aM,aN,aO,aP,aQ,aR,aS,aT,aU,aV,aW,aX,aY,aZ,bA,bB,bC,bD,bE,bF,bG,bH,bI,bJ,bK,bL,bM,bN,bO,bP,bQ,bR,bS,bT,bU,bV,bW,bX,bY,bZ,cA,cB,cC,cD,cE,cF,cG,cH,cI,cJ,cK,cL,cM,cN,cO,cP,cQ,cR,cS,cT,cU,cV,cW,cX,cY].toArray, []⟩ w (projK [2, 3, 5, 6, 47, 48, 49]) from by kernel_rfl).trans (by kernel_rfl)
set_option maxRecDepth 100000 in
theorem s63J12of {w : World} {r : _} (h : s63M12 aC aD aF aG bV bW bX bY w = some r) : s63J12 [aA,aB,aC,aD,aE,aF,aG,aH,aI,aJ,aK,aL,aM,aN,aO,aP,aQ,aR,aS,aT,aU,aV,aW,aX,aY,aZ,bA,bB,bC,bD,bE,bF,bG,bH,bI,bJ,bK,bL,bM,bN,bO,bP,bQ,bR,bS,bT,bU,bV,bW,bX,bY,bZ,cA,cB,cC,cD,cE,cF,cG,cH,cI,cJ,cK,cL,cM,cN,cO,cP,cQ,cR,cS,cT,cU,cV,cW,cX,cY] [] w = some r :=
  ((s63J12eq w).trans ((condK_mono (s63J13of) id) h))
set_option maxRecDepth 100000 in
theorem s63J8eq (w : World) : s63J8 [aA,aB,aC,aD,aE,aF,aG,aH,aI,aJ,aK,aL,aM,aN,aO,aP,aQ,aR,aS,aT,aU,aV,aW,aX,aY,aZ,bA,bB,bC,bD,bE,bF,bG,bH,bI,bJ,bK,bL,bM,bN,bO,bP,bQ,bR,bS,bT,bU,bV,bW,bX,bY,bZ,cA,cB,cC,cD,cE,cF,cG,cH,cI,cJ,cK,cL,cM,cN,cO,cP,cQ,cR,cS,cT,cU,cV,cW,cX,cY] [] w = s63M8 aG cO w := (show _ = evK Tryd.prog 63 none (nav [1, 1, 0, 1, 0, 1, 1, 1, 1, 0, 1] (bodyOf Tryd.f63)) none _ ⟨[aA,aB,aC,aD,aE,aF,aG,aH,aI,aJ,aK,aL,aM,aN,aO,aP,aQ,aR,aS,aT,aU,aV,aW,aX,aY,aZ,bA,bB,bC,bD,bE,bF,bG,bH,bI,bJ,bK,bL,bM,bN,bO,bP,bQ,bR,bS,bT,bU,bV,bW,bX,bY,bZ,cA,cB,cC,cD,cE,cF,cG,cH,cI,cJ,cK,cL,cM,cN,cO,cP,cQ,cR,cS,cT,cU,cV,cW,cX,cY].toArray, []⟩ w s63K9 from by kernel_rfl).trans (by kernel_rfl)
set_option maxRecDepth 100000 in
theorem s63J8of {w : World} {r : _} (h : s63M8 aG cO w = some r) : s63J8 [aA,aB,aC,aD,aE,aF,aG,aH,aI,aJ,aK,aL,aM,aN,aO,aP,aQ,aR,aS,aT,aU,aV,aW,aX,aY,aZ,bA,bB,bC,bD,bE,bF,bG,bH,bI,bJ,bK,bL,bM,bN,bO,bP,bQ,bR,bS,bT,bU,bV,bW,bX,bY,bZ,cA,cB,cC,cD,cE,cF,cG,cH,cI,cJ,cK,cL,cM,cN,cO,cP,cQ,cR,cS,cT,cU,cV,cW,cX,cY] [] w = some r :=
  ((s63J8eq w).trans h)
theorem s63J5rg {β : Type} (K : Exit → Act → World → Option β) (w : World) : evK Tryd.prog 63 none (nav [1, 1, 0, 1, 0, 1, 1, 1, 1, 0, 0] (bodyOf Tryd.f63)) none _ ⟨[aA,aB,aC,aD,aE,aF,aG,aH,aI,aJ,aK,aL,aM,aN,aO,aP,aQ,aR,aS,aT,aU,aV,aW,aX,aY,aZ,bA,bB,bC,bD,bE,bF,bG,bH,bI,bJ,bK,bL,bM,bN,bO,bP,bQ,bR,bS,bT,bU,bV,bW,bX,bY,bZ,cA,cB,cC,cD,cE,cF,cG,cH,cI,cJ,cK,cL,cM,cN,cO,cP,cQ,cR,cS,cT,cU,cV,cW,cX,cY].toArray, []⟩ w K =
    (Qindex Tryd.prog 9 aF (Value.int .i64 0) w).bind fun v547 =>
    (Qbin Tryd.prog .eql 5 v547 (Value.int .u8 45)).bind fun v548 =>
    K Exit.normal ⟨[aA,aB,aC,aD,aE,aF,aG,aH,aI,aJ,aK,aL,aM,aN,aO,aP,aQ,aR,aS,aT,aU,aV,aW,aX,aY,aZ,bA,bB,bC,bD,bE,bF,bG,bH,bI,bJ,bK,bL,bM,bN,bO,bP,bQ,bR,bS,bT,bU,bV,bW,bX,bY,bZ,cA,cB,cC,cD,cE,cF,cG,cH,cI,cJ,cK,cL,aF, v547, v548, cP,cQ,cR,cS,cT,cU,cV,cW,cX,cY].toArray, []⟩ w := by kernel_rfl
set_option maxRecDepth 100000 in
theorem s63J5eq (w : World) : s63J5 [aA,aB,aC,aD,aE,aF,aG,aH,aI,aJ,aK,aL,aM,aN,aO,aP,aQ,aR,aS,aT,aU,aV,aW,aX,aY,aZ,bA,bB,bC,bD,bE,bF,bG,bH,bI,bJ,bK,bL,bM,bN,bO,bP,bQ,bR,bS,bT,bU,bV,bW,bX,bY,bZ,cA,cB,cC,cD,cE,cF,cG,cH,cI,cJ,cK,cL,cM,cN,cO,cP,cQ,cR,cS,cT,cU,cV,cW,cX,cY] [] w = s63M5raw aA aB aC aD aE aF aG aH aI aJ aK aL aM aN aO aP aQ aR aS aT aU aV aW aX aY aZ bA bB bC bD bE bF bG bH bI bJ bK bL bM bN bO bP bQ bR bS bT bU bV bW bX bY bZ cA cB cC cD cE cF cG cH cI cJ cK cL cM cN cO cP cQ cR cS cT cU cV cW cX cY w := (show _ = seqK (fun a w => evK Tryd.prog 63 none (nav [1, 1, 0, 1, 0, 1, 1, 1, 1] (bodyOf Tryd.f63)) none _ a w s63K1) s63K1 .normal ⟨[aA,aB,aC,aD,aE,aF,aG,aH,aI,aJ,aK,aL,aM,aN,aO,aP,aQ,aR,aS,aT,aU,aV,aW,aX,aY,aZ,bA,bB,bC,bD,bE,bF,bG,bH,bI,bJ,bK,bL,bM,bN,bO,bP,bQ,bR,bS,bT,bU,bV,bW,bX,bY,bZ,cA,cB,cC,cD,cE,cF,cG,cH,cI,cJ,cK,cL,cM,cN,cO,cP,cQ,cR,cS,cT,cU,cV,cW,cX,cY].toArray, []⟩ w from by kernel_rfl).trans ((seqK_n _ _ _ _).trans ((show _ = evK Tryd.prog 63 none (nav [1, 1, 0, 1, 0, 1, 1, 1, 1, 0, 0] (bodyOf Tryd.f63)) none _ ⟨[aA,aB,aC,aD,aE,aF,aG,aH,aI,aJ,aK,aL,aM,aN,aO,aP,aQ,aR,aS,aT,aU,aV,aW,aX,aY,aZ,bA,bB,bC,bD,bE,bF,bG,bH,bI,bJ,bK,bL,bM,bN,bO,bP,bQ,bR,bS,bT,bU,bV,bW,bX,bY,bZ,cA,cB,cC,cD,cE,cF,cG,cH,cI,cJ,cK,cL,cM,cN,cO,cP,cQ,cR,cS,cT,cU,cV,cW,cX,cY].toArray, []⟩ w s63K10 from by kernel_rfl).trans ((s63J5rg s63K10 w).trans (by kernel_rfl))))
set_option maxRecDepth 100000 in
theorem s63J5of {w : World} {r : _} (h : s63M5 aF aG w = some r) : s63J5 [aA,aB,aC,aD,aE,aF,aG,aH,aI,aJ,aK,aL,aM,aN,aO,aP,aQ,aR,aS,aT,aU,aV,aW,aX,aY,aZ,bA,bB,bC,bD,bE,bF,bG,bH,bI,bJ,bK,bL,bM,bN,bO,bP,bQ,bR,bS,bT,bU,bV,bW,bX,bY,bZ,cA,cB,cC,cD,cE,cF,cG,cH,cI,cJ,cK,cL,cM,cN,cO,cP,cQ,cR,cS,cT,cU,cV,cW,cX,cY] [] w = some r :=
  ((s63J5eq w).trans ((Ev.bind_mono fun (_ : Value) => (Ev.bind_mono fun (_ : Value) => (s63J8of))) h))
theorem s63B10eq (x2 x3 x5 x6 x47 x48 x49 : Value) (w : World) (g : Nat → Value) (d : List Deferred) : evK Tryd.prog 63 none (nav [1, 1, 0, 1, 0, 1, 1, 1, 0, 1, 0, 0] (bodyOf Tryd.f63)) none _ (frm 77 (setL [2, 3, 5, 6, 47, 48, 49] [x2, x3, x5, x6, x47, x48, x49] g) d) w (projK [2, 3, 5, 6, 47, 48, 49]) = s63B10raw g d [x2, x3, x5, x6, x47, x48, x49] w := by kernel_rfl
theorem s63R10x0eq (x2 x3 x5 x6 x47 x48 x49 : Value) (g : Nat → Value) (w : World) : s63K11 (Exit.exit 0) (frm 77 (setL [2, 3, 5, 6, 47, 48, 49] [x2, x3, x5, x6, x47, x48, x49] g) []) w = s63R10x0raw x2 x3 x5 x6 x47 x48 x49 g w := by kernel_rfl
theorem s63R10ret_eq (x2 x3 x5 x6 x47 x48 x49 : Value) (g : Nat → Value) (w : World) : s63K11 Exit.ret (frm 77 (setL [2, 3, 5, 6, 47, 48, 49] [x2, x3, x5, x6, x47, x48, x49] g) []) w = s63R10 Exit.ret [x2, x3, x5, x6, x47, x48, x49] w := by kernel_rfl
theorem s63R10of : ∀ (e : Exit) (xs : List Value) (w : World) (g : Nat → Value) (y : _), s63R10 e xs w = some y → s63K11 e (frm 77 (setL [2, 3, 5, 6, 47, 48, 49] xs g) []) w = some y := by
  intro e xs w g y h
  unfold s63R10 at h
  split at h
  · exact (s63R10x0eq _ _ _ _ _ _ _ g _).trans ((s63J5of) h)
  · exact (s63R10ret_eq _ _ _ _ _ _ _ g _).trans h
  · cases h
set_option maxRecDepth 20000 in
theorem s63L10of {aA aB aC aD aE aF aG aH aI aJ aK aL aM aN aO aP aQ aR aS aT aU aV aW aX aY aZ bA bB bC bD bE bF bG bH bI bJ bK bL bM bN bO bP bQ bR bS bT bU bV bW bX bY bZ cA cB cC cD cE cF cG cH cI cJ cK cL cM cN cO cP cQ cR cS cT cU cV cW cX cY : Value} {w : World} {r : _} (h : loopR s63B10 s63R10 [aC,aD,aF,aG,bV,bW,bX] w = some r) : s63L10 [aA,aB,aC,aD,aE,aF,aG,aH,aI,aJ,aK,aL,aM,aN,aO,aP,aQ,aR,aS,aT,aU,aV,aW,aX,aY,aZ,bA,bB,bC,bD,bE,bF,bG,bH,bI,bJ,bK,bL,bM,bN,bO,bP,bQ,bR,bS,bT,bU,bV,bW,bX,bY,bZ,cA,cB,cC,cD,cE,cF,cG,cH,cI,cJ,cK,cL,cM,cN,cO,cP,cQ,cR,cS,cT,cU,cV,cW,cX,cY] [] w = some r :=
  loopN_of (B := s63B10) (R := s63R10) (n := 77) (live := [2, 3, 5, 6, 47, 48, 49]) (fun xs w g y hl h => match xs, hl, h with | [x2, x3, x5, x6, x47, x48, x49], _, h => (s63B10eq x2 x3 x5 x6 x47 x48 x49 w g []).trans (show s63B10raw g [] [x2, x3, x5, x6, x47, x48, x49] w = some y from (Ev.bind_mono fun (_ : Value) => (s63J12of)) h)) (by kernel_rfl) (s63R10of) (fun i => ([aA,aB,aC,aD,aE,aF,aG,aH,aI,aJ,aK,aL,aM,aN,aO,aP,aQ,aR,aS,aT,aU,aV,aW,aX,aY,aZ,bA,bB,bC,bD,bE,bF,bG,bH,bI,bJ,bK,bL,bM,bN,bO,bP,bQ,bR,bS,bT,bU,bV,bW,bX,bY,bZ,cA,cB,cC,cD,cE,cF,cG,cH,cI,cJ,cK,cL,cM,cN,cO,cP,cQ,cR,cS,cT,cU,cV,cW,cX,cY] : List Value).getD i undef) (by kernel_rfl) rfl h
theorem s63J9rg {β : Type} (K : Exit → Act → World → Option β) (w : World) : evK Tryd.prog 63 none (nav [1, 1, 0, 1, 0, 1, 1, 1, 1, 0, 0] (bodyOf Tryd.f63)) none _ ⟨[aA,aB,aC,aD,aE,aF,aG,aH,aI,aJ,aK,aL,aM,aN,aO,aP,aQ,aR,aS,aT,aU,aV,aW,aX,aY,aZ,bA,bB,bC,bD,bE,bF,bG,bH,bI,bJ,bK,bL,bM,bN,bO,bP,bQ,bR,bS,bT,bU,bV,bW,bX,bY,bZ,cA,cB,cC,cD,cE,cF,cG,cH,cI,cJ,cK,cL,cM,cN,cO,cP,cQ,cR,cS,cT,cU,cV,cW,cX,cY].toArray, []⟩ w K =
    (Qindex Tryd.prog 9 aF (Value.int .i64 0) w).bind fun v554 =>
    (Qbin Tryd.prog .eql 5 v554 (Value.int .u8 45)).bind fun v555 =>
    K Exit.normal ⟨[aA,aB,aC,aD,aE,aF,aG,aH,aI,aJ,aK,aL,aM,aN,aO,aP,aQ,aR,aS,aT,aU,aV,aW,aX,aY,aZ,bA,bB,bC,bD,bE,bF,bG,bH,bI,bJ,bK,bL,bM,bN,bO,bP,bQ,bR,bS,bT,bU,bV,bW,bX,bY,bZ,cA,cB,cC,cD,cE,cF,cG,cH,cI,cJ,cK,cL,aF, v554, v555, cP,cQ,cR,cS,cT,cU,cV,cW,cX,cY].toArray, []⟩ w := by kernel_rfl
set_option maxRecDepth 100000 in
theorem s63J9eq (w : World) : s63J9 [aA,aB,aC,aD,aE,aF,aG,aH,aI,aJ,aK,aL,aM,aN,aO,aP,aQ,aR,aS,aT,aU,aV,aW,aX,aY,aZ,bA,bB,bC,bD,bE,bF,bG,bH,bI,bJ,bK,bL,bM,bN,bO,bP,bQ,bR,bS,bT,bU,bV,bW,bX,bY,bZ,cA,cB,cC,cD,cE,cF,cG,cH,cI,cJ,cK,cL,cM,cN,cO,cP,cQ,cR,cS,cT,cU,cV,cW,cX,cY] [] w = s63M9raw aA aB aC aD aE aF aG aH aI aJ aK aL aM aN aO aP aQ aR aS aT aU aV aW aX aY aZ bA bB bC bD bE bF bG bH bI bJ bK bL bM bN bO bP bQ bR bS bT bU bV bW bX bY bZ cA cB cC cD cE cF cG cH cI cJ cK cL cM cN cO cP cQ cR cS cT cU cV cW cX cY w := (show _ = seqK (fun a w => evK Tryd.prog 63 none (nav [1, 1, 0, 1, 0, 1, 1, 1, 1] (bodyOf Tryd.f63)) none _ a w s63K1) s63K1 .normal ⟨[aA,aB,aC,aD,aE,aF,aG,aH,aI,aJ,aK,aL,aM,aN,aO,aP,aQ,aR,aS,aT,aU,aV,aW,aX,aY,aZ,bA,bB,bC,bD,bE,bF,bG,bH,bI,bJ,bK,bL,bM,bN,bO,bP,bQ,bR,bS,bT,bU,bV,bW,bX,bY,bZ,cA,cB,cC,cD,cE,cF,cG,cH,cI,cJ,cK,cL,cM,cN,cO,cP,cQ,cR,cS,cT,cU,cV,cW,cX,cY].toArray, []⟩ w from by kernel_rfl).trans ((seqK_n _ _ _ _).trans ((show _ = evK Tryd.prog 63 none (nav [1, 1, 0, 1, 0, 1, 1, 1, 1, 0, 0] (bodyOf Tryd.f63)) none _ ⟨[aA,aB,aC,aD,aE,aF,aG,aH,aI,aJ,aK,aL,aM,aN,aO,aP,aQ,aR,aS,aT,aU,aV,aW,aX,aY,aZ,bA,bB,bC,bD,bE,bF,bG,bH,bI,bJ,bK,bL,bM,bN,bO,bP,bQ,bR,bS,bT,bU,bV,bW,bX,bY,bZ,cA,cB,cC,cD,cE,cF,cG,cH,cI,cJ,cK,cL,cM,cN,cO,cP,cQ,cR,cS,cT,cU,cV,cW,cX,cY].toArray, []⟩ w s63K10 from by kernel_rfl).trans ((s63J9rg s63K10 w).trans (by kernel_rfl))))
set_option maxRecDepth 100000 in
theorem s63J9of {w : World} {r : _} (h : s63M9 aF aG w = some r) : s63J9 [aA,aB,aC,aD,aE,aF,aG,aH,aI,aJ,aK,aL,aM,aN,aO,aP,aQ,aR,aS,aT,aU,aV,aW,aX,aY,aZ,bA,bB,bC,bD,bE,bF,bG,bH,bI,bJ,bK,bL,bM,bN,bO,bP,bQ,bR,bS,bT,bU,bV,bW,bX,bY,bZ,cA,cB,cC,cD,cE,cF,cG,cH,cI,cJ,cK,cL,cM,cN,cO,cP,cQ,cR,cS,cT,cU,cV,cW,cX,cY] [] w = some r :=
  ((s63J9eq w).trans ((s63J5of) h))
set_option maxRecDepth 100000 in
theorem s63J6eq (w : World) : s63J6 [aA,aB,aC,aD,aE,aF,aG,aH,aI,aJ,aK,aL,aM,aN,aO,aP,aQ,aR,aS,aT,aU,aV,aW,aX,aY,aZ,bA,bB,bC,bD,bE,bF,bG,bH,bI,bJ,bK,bL,bM,bN,bO,bP,bQ,bR,bS,bT,bU,bV,bW,bX,bY,bZ,cA,cB,cC,cD,cE,cF,cG,cH,cI,cJ,cK,cL,cM,cN,cO,cP,cQ,cR,cS,cT,cU,cV,cW,cX,cY] [] w = s63M6raw aA aB aC aD aE aF aG aH aI aJ aK aL aM aN aO aP aQ aR aS aT aU aV aW aX aY aZ bA bB bC bD bE bF bG bH bI bJ bK bL bM bN bO bP bQ bR bS bT bU bV bW bX bY bZ cA cB cC cD cE cF cG cH cI cJ cK cL cM cN cO cP cQ cR cS cT cU cV cW cX cY w := (show _ = evK Tryd.prog 63 none (nav [1, 1, 0, 1, 0, 1, 1, 1, 0, 1] (bodyOf Tryd.f63)) none _ ⟨[aA,aB,aC,aD,aE,aF,aG,aH,aI,aJ,aK,aL,aM,aN,aO,aP,aQ,aR,aS,aT,aU,aV,aW,aX,aY,aZ,bA,bB,bC,bD,bE,bF,bG,bH,bI,bJ,bK,bL,bM,bN,bO,bP,bQ,bR,bS,bT,bU,bV,bW,bX,bY,bZ,cA,cB,cC,cD,cE,cF,cG,cH,cI,cJ,cK,cL,cM,cN,cO,cP,cQ,cR,cS,cT,cU,cV,cW,cX,cY].toArray, []⟩ w s63K5 from by kernel_rfl).trans (by kernel_rfl)
set_option maxRecDepth 100000 in
theorem s63J6of {w : World} {r : _} (h : s63M6 aC aD aF aG bV bW bX w = some r) : s63J6 [aA,aB,aC,aD,aE,aF,aG,aH,aI,aJ,aK,aL,aM,aN,aO,aP,aQ,aR,aS,aT,aU,aV,aW,aX,aY,aZ,bA,bB,bC,bD,bE,bF,bG,bH,bI,bJ,bK,bL,bM,bN,bO,bP,bQ,bR,bS,bT,bU,bV,bW,bX,bY,bZ,cA,cB,cC,cD,cE,cF,cG,cH,cI,cJ,cK,cL,cM,cN,cO,cP,cQ,cR,cS,cT,cU,cV,cW,cX,cY] [] w = some r :=
  ((s63J6eq w).trans ((s63L10of) h))
theorem s63J3rg {β : Type} (K : Exit → Act → World → Option β) (w : World) : evK Tryd.prog 63 none (nav [1, 1, 0, 1, 0, 1, 1, 0] (bodyOf Tryd.f63)) none _ ⟨[aA,aB,aC,aD,aE,aF,aG,aH,aI,aJ,aK,aL,aM,aN,aO,aP,aQ,aR,aS,aT,aU,aV,aW,aX,aY,aZ,bA,bB,bC,bD,bE,bF,bG,bH,bI,bJ,bK,bL,bM,bN,bO,bP,bQ,bR,bS,bT,bU,bV,bW,bX,bY,bZ,cA,cB,cC,cD,cE,cF,cG,cH,cI,cJ,cK,cL,cM,cN,cO,cP,cQ,cR,cS,cT,cU,cV,cW,cX,cY].toArray, []⟩ w K =
    K Exit.normal ⟨[aA,aB,aC,aD,aE,aF, (Value.int .i64 0), aH,aI,aJ,aK,aL,aM,aN,aO,aP,aQ,aR,aS,aT,aU,aV,aW,aX,aY,aZ,bA,bB,bC,bD,bE,bF,bG,bH,bI,bJ,bK,bL,bM,bN,bO,bP,bQ,bR,bS,bT,bU,bV,bW,bX,bY,bZ,cA,cB,cC,cD,cE,cF,cG,cH,cI,cJ,cK,cL,cM,cN,cO,cP,cQ,cR,cS,cT,cU,cV,cW,cX,cY].toArray, []⟩ w := by kernel_rfl
set_option maxRecDepth 100000 in
theorem s63J3eq (w : World) : s63J3 [aA,aB,aC,aD,aE,aF,aG,aH,aI,aJ,aK,aL,aM,aN,aO,aP,aQ,aR,aS,aT,aU,aV,aW,aX,aY,aZ,bA,bB,bC,bD,bE,bF,bG,bH,bI,bJ,bK,bL,bM,bN,bO,bP,bQ,bR,bS,bT,bU,bV,bW,bX,bY,bZ,cA,cB,cC,cD,cE,cF,cG,cH,cI,cJ,cK,cL,cM,cN,cO,cP,cQ,cR,cS,cT,cU,cV,cW,cX,cY] [] w = s63M3raw aA aB aC aD aE aF aG aH aI aJ aK aL aM aN aO aP aQ aR aS aT aU aV aW aX aY aZ bA bB bC bD bE bF bG bH bI bJ bK bL bM bN bO bP bQ bR bS bT bU bV bW bX bY bZ cA cB cC cD cE cF cG cH cI cJ cK cL cM cN cO cP cQ cR cS cT cU cV cW cX cY w := (show _ = seqK (fun a w => evK Tryd.prog 63 none (nav [1, 1, 0, 1, 0, 1, 1] (bodyOf Tryd.f63)) none _ a w s63K1) s63K1 .normal ⟨[aA,aB,aC,aD,aE,aF,aG,aH,aI,aJ,aK,aL,aM,aN,aO,aP,aQ,aR,aS,aT,aU,aV,aW,aX,aY,aZ,bA,bB,bC,bD,bE,bF,bG,bH,bI,bJ,bK,bL,bM,bN,bO,bP,bQ,bR,bS,bT,bU,bV,bW,bX,bY,bZ,cA,cB,cC,cD,cE,cF,cG,cH,cI,cJ,cK,cL,cM,cN,cO,cP,cQ,cR,cS,cT,cU,cV,cW,cX,cY].toArray, []⟩ w from by kernel_rfl).trans ((seqK_n _ _ _ _).trans ((show _ = evK Tryd.prog 63 none (nav [1, 1, 0, 1, 0, 1, 1, 0] (bodyOf Tryd.f63)) none _ ⟨[aA,aB,aC,aD,aE,aF,aG,aH,aI,aJ,aK,aL,aM,aN,aO,aP,aQ,aR,aS,aT,aU,aV,aW,aX,aY,aZ,bA,bB,bC,bD,bE,bF,bG,bH,bI,bJ,bK,bL,bM,bN,bO,bP,bQ,bR,bS,bT,bU,bV,bW,bX,bY,bZ,cA,cB,cC,cD,cE,cF,cG,cH,cI,cJ,cK,cL,cM,cN,cO,cP,cQ,cR,cS,cT,cU,cV,cW,cX,cY].toArray, []⟩ w s63K7 from by kernel_rfl).trans ((s63J3rg s63K7 w).trans (by kernel_rfl))))
set_option maxRecDepth 100000 in
theorem s63J3of {w : World} {r : _} (h : s63M3 aA aC aD aF w = some r) : s63J3 [aA,aB,aC,aD,aE,aF,aG,aH,aI,aJ,aK,aL,aM,aN,aO,aP,aQ,aR,aS,aT,aU,aV,aW,aX,aY,aZ,bA,bB,bC,bD,bE,bF,bG,bH,bI,bJ,bK,bL,bM,bN,bO,bP,bQ,bR,bS,bT,bU,bV,bW,bX,bY,bZ,cA,cB,cC,cD,cE,cF,cG,cH,cI,cJ,cK,cL,cM,cN,cO,cP,cQ,cR,cS,cT,cU,cV,cW,cX,cY] [] w = some r :=
  ((s63J3eq w).trans ((Ev.bind_mono fun (_ : Value × World) => (Ev.bind_mono fun (_ : Value) => (s63J6of))) h))
set_option maxRecDepth 100000 in
theorem s63J11eq (w : World) : s63J11 [aA,aB,aC,aD,aE,aF,aG,aH,aI,aJ,aK,aL,aM,aN,aO,aP,aQ,aR,aS,aT,aU,aV,aW,aX,aY,aZ,bA,bB,bC,bD,bE,bF,bG,bH,bI,bJ,bK,bL,bM,bN,bO,bP,bQ,bR,bS,bT,bU,bV,bW,bX,bY,bZ,cA,cB,cC,cD,cE,cF,cG,cH,cI,cJ,cK,cL,cM,cN,cO,cP,cQ,cR,cS,cT,cU,cV,cW,cX,cY] [] w = s63M11raw aA aB aC aD aE aF aG aH aI aJ aK aL aM aN aO aP aQ aR aS aT aU aV aW aX aY aZ bA bB bC bD bE bF bG bH bI bJ bK bL bM bN bO bP bQ bR bS bT bU bV bW bX bY bZ cA cB cC cD cE cF cG cH cI cJ cK cL cM cN cO cP cQ cR cS cT cU cV cW cX cY w := (show _ = evK Tryd.prog 63 none (nav [1, 1, 0, 1, 0, 1, 0, 1, 0, 1, 1] (bodyOf Tryd.f63)) none _ ⟨[aA,aB,aC,aD,aE,aF,aG,aH,aI,aJ,aK,aL,aM,aN,aO,aP,aQ,aR,aS,aT,aU,aV,aW,aX,aY,aZ,bA,bB,bC,bD,bE,bF,bG,bH,bI,bJ,bK,bL,bM,bN,bO,bP,bQ,bR,bS,bT,bU,bV,bW,bX,bY,bZ,cA,cB,cC,cD,cE,cF,cG,cH,cI,cJ,cK,cL,cM,cN,cO,cP,cQ,cR,cS,cT,cU,cV,cW,cX,cY].toArray, []⟩ w s63K3 from by kernel_rfl).trans (by kernel_rfl)
set_option maxRecDepth 100000 in
theorem s63J11of {w : World} {r : _} (h : s63M11 aA aC aD aF bS w = some r) : s63J11 [aA,aB,aC,aD,aE,aF,aG,aH,aI,aJ,aK,aL,aM,aN,aO,aP,aQ,aR,aS,aT,aU,aV,aW,aX,aY,aZ,bA,bB,bC,bD,bE,bF,bG,bH,bI,bJ,bK,bL,bM,bN,bO,bP,bQ,bR,bS,bT,bU,bV,bW,bX,bY,bZ,cA,cB,cC,cD,cE,cF,cG,cH,cI,cJ,cK,cL,cM,cN,cO,cP,cQ,cR,cS,cT,cU,cV,cW,cX,cY] [] w = some r :=
  ((s63J11eq w).trans ((condK_mono id (s63J3of)) h))
theorem s63J7rg {β : Type} (K : Exit → Act → World → Option β) (w : World) : evK Tryd.prog 63 none (nav [1, 1, 0, 1, 0, 1, 0, 1, 0, 1, 0] (bodyOf Tryd.f63)) none _ ⟨[aA,aB,aC,aD,aE,aF,aG,aH,aI,aJ,aK,aL,aM,aN,aO,aP,aQ,aR,aS,aT,aU,aV,aW,aX,aY,aZ,bA,bB,bC,bD,bE,bF,bG,bH,bI,bJ,bK,bL,bM,bN,bO,bP,bQ,bR,bS,bT,bU,bV,bW,bX,bY,bZ,cA,cB,cC,cD,cE,cF,cG,cH,cI,cJ,cK,cL,cM,cN,cO,cP,cQ,cR,cS,cT,cU,cV,cW,cX,cY].toArray, []⟩ w K =
    (Qlen Tryd.prog #[9] 3 #[aA] w).bind fun v551 =>
    (Qbin Tryd.prog .lss 3 v551 (Value.int .i64 1)).bind fun v552 =>
    K Exit.normal ⟨[aA,aB,aC,aD,aE,aF,aG,aH,aI,aJ,aK,aL,aM,aN,aO,aP,aQ,aR,aS,aT,aU,aV,aW,aX,aY,aZ,bA,bB,bC,bD,bE,bF,bG,bH,bI,bJ,bK,bL,bM,bN,bO,bP,aA, v551, v552, bT,bU,bV,bW,bX,bY,bZ,cA,cB,cC,cD,cE,cF,cG,cH,cI,cJ,cK,cL,cM,cN,cO,cP,cQ,cR,cS,cT,cU,cV,cW,cX,cY].toArray, []⟩ w := by kernel_rfl
set_option maxRecDepth 100000 in
theorem s63J7eq (w : World) : s63J7 [aA,aB,aC,aD,aE,aF,aG,aH,aI,aJ,aK,aL,aM,aN,aO,aP,aQ,aR,aS,aT,aU,aV,aW,aX,aY,aZ,bA,bB,bC,bD,bE,bF,bG,bH,bI,bJ,bK,bL,bM,bN,bO,bP,bQ,bR,bS,bT,bU,bV,bW,bX,bY,bZ,cA,cB,cC,cD,cE,cF,cG,cH,cI,cJ,cK,cL,cM,cN,cO,cP,cQ,cR,cS,cT,cU,cV,cW,cX,cY] [] w = s63M7raw aA aB aC aD aE aF aG aH aI aJ aK aL aM aN aO aP aQ aR aS aT aU aV aW aX aY aZ bA bB bC bD bE bF bG bH bI bJ bK bL bM bN bO bP bQ bR bS bT bU bV bW bX bY bZ cA cB cC cD cE cF cG cH cI cJ cK cL cM cN cO cP cQ cR cS cT cU cV cW cX cY w := (show _ = seqK (fun a w => evK Tryd.prog 63 none (nav [1, 1, 0, 1, 0, 1, 0, 1, 0, 1] (bodyOf Tryd.f63)) none _ a w s63K3) s63K3 .normal ⟨[aA,aB,aC,aD,aE,aF,aG,aH,aI,aJ,aK,aL,aM,aN,aO,aP,aQ,aR,aS,aT,aU,aV,aW,aX,aY,aZ,bA,bB,bC,bD,bE,bF,bG,bH,bI,bJ,bK,bL,bM,bN,bO,bP,bQ,bR,bS,bT,bU,bV,bW,bX,bY,bZ,cA,cB,cC,cD,cE,cF,cG,cH,cI,cJ,cK,cL,cM,cN,cO,cP,cQ,cR,cS,cT,cU,cV,cW,cX,cY].toArray, []⟩ w from by kernel_rfl).trans ((seqK_n _ _ _ _).trans ((show _ = evK Tryd.prog 63 none (nav [1, 1, 0, 1, 0, 1, 0, 1, 0, 1, 0] (bodyOf Tryd.f63)) none _ ⟨[aA,aB,aC,aD,aE,aF,aG,aH,aI,aJ,aK,aL,aM,aN,aO,aP,aQ,aR,aS,aT,aU,aV,aW,aX,aY,aZ,bA,bB,bC,bD,bE,bF,bG,bH,bI,bJ,bK,bL,bM,bN,bO,bP,bQ,bR,bS,bT,bU,bV,bW,bX,bY,bZ,cA,cB,cC,cD,cE,cF,cG,cH,cI,cJ,cK,cL,cM,cN,cO,cP,cQ,cR,cS,cT,cU,cV,cW,cX,cY].toArray, []⟩ w s63K12 from by kernel_rfl).trans ((s63J7rg s63K12 w).trans (by kernel_rfl))))
set_option maxRecDepth 100000 in
theorem s63J7of {w : World} {r : _} (h : s63M7 aA aC aD aF w = some r) : s63J7 [aA,aB,aC,aD,aE,aF,aG,aH,aI,aJ,aK,aL,aM,aN,aO,aP,aQ,aR,aS,aT,aU,aV,aW,aX,aY,aZ,bA,bB,bC,bD,bE,bF,bG,bH,bI,bJ,bK,bL,bM,bN,bO,bP,bQ,bR,bS,bT,bU,bV,bW,bX,bY,bZ,cA,cB,cC,cD,cE,cF,cG,cH,cI,cJ,cK,cL,cM,cN,cO,cP,cQ,cR,cS,cT,cU,cV,cW,cX,cY] [] w = some r :=
  ((s63J7eq w).trans ((Ev.bind_mono fun (_ : Value) => (Ev.bind_mono fun (_ : Value) => (s63J11of))) h))
set_option maxRecDepth 100000 in
theorem s63J4eq (w : World) : s63J4 [aA,aB,aC,aD,aE,aF,aG,aH,aI,aJ,aK,aL,aM,aN,aO,aP,aQ,aR,aS,aT,aU,aV,aW,aX,aY,aZ,bA,bB,bC,bD,bE,bF,bG,bH,bI,bJ,bK,bL,bM,bN,bO,bP,bQ,bR,bS,bT,bU,bV,bW,bX,bY,bZ,cA,cB,cC,cD,cE,cF,cG,cH,cI,cJ,cK,cL,cM,cN,cO,cP,cQ,cR,cS,cT,cU,cV,cW,cX,cY] [] w = s63M4raw aA aB aC aD aE aF aG aH aI aJ aK aL aM aN aO aP aQ aR aS aT aU aV aW aX aY aZ bA bB bC bD bE bF bG bH bI bJ bK bL bM bN bO bP bQ bR bS bT bU bV bW bX bY bZ cA cB cC cD cE cF cG cH cI cJ cK cL cM cN cO cP cQ cR cS cT cU cV cW cX cY w := (show _ = evK Tryd.prog 63 none (nav [1, 1, 0, 1, 0, 1, 0, 1] (bodyOf Tryd.f63)) none _ ⟨[aA,aB,aC,aD,aE,aF,aG,aH,aI,aJ,aK,aL,aM,aN,aO,aP,aQ,aR,aS,aT,aU,aV,aW,aX,aY,aZ,bA,bB,bC,bD,bE,bF,bG,bH,bI,bJ,bK,bL,bM,bN,bO,bP,bQ,bR,bS,bT,bU,bV,bW,bX,bY,bZ,cA,cB,cC,cD,cE,cF,cG,cH,cI,cJ,cK,cL,cM,cN,cO,cP,cQ,cR,cS,cT,cU,cV,cW,cX,cY].toArray, []⟩ w s63K3 from by kernel_rfl).trans (by kernel_rfl)
set_option maxRecDepth 100000 in
theorem s63J4of {w : World} {r : _} (h : s63M4 aA aC aD aF bN w = some r) : s63J4 [aA,aB,aC,aD,aE,aF,aG,aH,aI,aJ,aK,aL,aM,aN,aO,aP,aQ,aR,aS,aT,aU,aV,aW,aX,aY,aZ,bA,bB,bC,bD,bE,bF,bG,bH,bI,bJ,bK,bL,bM,bN,bO,bP,bQ,bR,bS,bT,bU,bV,bW,bX,bY,bZ,cA,cB,cC,cD,cE,cF,cG,cH,cI,cJ,cK,cL,cM,cN,cO,cP,cQ,cR,cS,cT,cU,cV,cW,cX,cY] [] w = some r :=
  ((s63J4eq w).trans ((condK_mono (Ev.bind_mono fun (_ : Value) => (s63J7of)) (s63J3of)) h))
set_option maxRecDepth 100000 in
theorem s63J1eq (w : World) : s63J1 [aA,aB,aC,aD,aE,aF,aG,aH,aI,aJ,aK,aL,aM,aN,aO,aP,aQ,aR,aS,aT,aU,aV,aW,aX,aY,aZ,bA,bB,bC,bD,bE,bF,bG,bH,bI,bJ,bK,bL,bM,bN,bO,bP,bQ,bR,bS,bT,bU,bV,bW,bX,bY,bZ,cA,cB,cC,cD,cE,cF,cG,cH,cI,cJ,cK,cL,cM,cN,cO,cP,cQ,cR,cS,cT,cU,cV,cW,cX,cY] [] w = s63M1 aA w := (show _ = evK Tryd.prog 63 none (nav [1, 1, 1] (bodyOf Tryd.f63)) none _ ⟨[aA,aB,aC,aD,aE,aF,aG,aH,aI,aJ,aK,aL,aM,aN,aO,aP,aQ,aR,aS,aT,aU,aV,aW,aX,aY,aZ,bA,bB,bC,bD,bE,bF,bG,bH,bI,bJ,bK,bL,bM,bN,bO,bP,bQ,bR,bS,bT,bU,bV,bW,bX,bY,bZ,cA,cB,cC,cD,cE,cF,cG,cH,cI,cJ,cK,cL,cM,cN,cO,cP,cQ,cR,cS,cT,cU,cV,cW,cX,cY].toArray, []⟩ w (leaveK Tryd.prog Tryd.f63) from by kernel_rfl).trans (by kernel_rfl)
set_option maxRecDepth 100000 in
theorem s63J1of {w : World} {r : _} (h : s63M1 aA w = some r) : s63J1 [aA,aB,aC,aD,aE,aF,aG,aH,aI,aJ,aK,aL,aM,aN,aO,aP,aQ,aR,aS,aT,aU,aV,aW,aX,aY,aZ,bA,bB,bC,bD,bE,bF,bG,bH,bI,bJ,bK,bL,bM,bN,bO,bP,bQ,bR,bS,bT,bU,bV,bW,bX,bY,bZ,cA,cB,cC,cD,cE,cF,cG,cH,cI,cJ,cK,cL,cM,cN,cO,cP,cQ,cR,cS,cT,cU,cV,cW,cX,cY] [] w = some r :=
  ((s63J1eq w).trans h)
set_option maxRecDepth 100000 in
theorem s63J2eq (w : World) : s63J2 [aA,aB,aC,aD,aE,aF,aG,aH,aI,aJ,aK,aL,aM,aN,aO,aP,aQ,aR,aS,aT,aU,aV,aW,aX,aY,aZ,bA,bB,bC,bD,bE,bF,bG,bH,bI,bJ,bK,bL,bM,bN,bO,bP,bQ,bR,bS,bT,bU,bV,bW,bX,bY,bZ,cA,cB,cC,cD,cE,cF,cG,cH,cI,cJ,cK,cL,cM,cN,cO,cP,cQ,cR,cS,cT,cU,cV,cW,cX,cY] [] w = s63M2raw aA aB aC aD aE aF aG aH aI aJ aK aL aM aN aO aP aQ aR aS aT aU aV aW aX aY aZ bA bB bC bD bE bF bG bH bI bJ bK bL bM bN bO bP bQ bR bS bT bU bV bW bX bY bZ cA cB cC cD cE cF cG cH cI cJ cK cL cM cN cO cP cQ cR cS cT cU cV cW cX cY w := (show _ = evK Tryd.prog 63 none (nav [1, 1, 0, 1] (bodyOf Tryd.f63)) none _ ⟨[aA,aB,aC,aD,aE,aF,aG,aH,aI,aJ,aK,aL,aM,aN,aO,aP,aQ,aR,aS,aT,aU,aV,aW,aX,aY,aZ,bA,bB,bC,bD,bE,bF,bG,bH,bI,bJ,bK,bL,bM,bN,bO,bP,bQ,bR,bS,bT,bU,bV,bW,bX,bY,bZ,cA,cB,cC,cD,cE,cF,cG,cH,cI,cJ,cK,cL,cM,cN,cO,cP,cQ,cR,cS,cT,cU,cV,cW,cX,cY].toArray, []⟩ w s63K1 from by kernel_rfl).trans (by kernel_rfl)
set_option maxRecDepth 100000 in
theorem s63J2of {w : World} {r : _} (h : s63M2 aA aC aD bE w = some r) : s63J2 [aA,aB,aC,aD,aE,aF,aG,aH,aI,aJ,aK,aL,aM,aN,aO,aP,aQ,aR,aS,aT,aU,aV,aW,aX,aY,aZ,bA,bB,bC,bD,bE,bF,bG,bH,bI,bJ,bK,bL,bM,bN,bO,bP,bQ,bR,bS,bT,bU,bV,bW,bX,bY,bZ,cA,cB,cC,cD,cE,cF,cG,cH,cI,cJ,cK,cL,cM,cN,cO,cP,cQ,cR,cS,cT,cU,cV,cW,cX,cY] [] w = some r :=
  ((s63J2eq w).trans ((condK_mono (Ev.bind_mono fun (_ : Value) => (Ev.bind_mono fun (_ : Value) => (Ev.bind_mono fun (_ : Value) => (Ev.bind_mono fun (_ : Value) => (Ev.bind_mono fun (_ : Value) => (s63J4of)))))) (s63J1of)) h))
theorem s63J0rg {β : Type} (K : Exit → Act → World → Option β) (w : World) : evK Tryd.prog 63 none (nav [1, 1, 0, 0] (bodyOf Tryd.f63)) none _ ⟨[aA,aB,aC,aD,aE,aF,aG,aH,aI,aJ,aK,aL,aM,aN,aO,aP,aQ,aR,aS,aT,aU,aV,aW,aX,aY,aZ,bA,bB,bC,bD,bE,bF,bG,bH,bI,bJ,bK,bL,bM,bN,bO,bP,bQ,bR,bS,bT,bU,bV,bW,bX,bY,bZ,cA,cB,cC,cD,cE,cF,cG,cH,cI,cJ,cK,cL,cM,cN,cO,cP,cQ,cR,cS,cT,cU,cV,cW,cX,cY].toArray, []⟩ w K =
    (guardQ (Value.bool false) true (Qbin Tryd.prog .lss 3 (Value.int .i64 0) (gv (isB (Value.bool false) true) aE))).bind fun v525 =>
    (guardQ (gv (isB (Value.bool false) true) v525) true (Qbin Tryd.prog .lss 3 (gv (isB (gv (isB (Value.bool false) true) v525) true) aE) (Value.int .i64 10))).bind fun v526 =>
    (guardQ (Value.bool false) true (Qpick (gv (isB (Value.bool false) true) v525) v526 (Value.bool false))).bind fun v527 =>
    (Qpick (Value.bool false) v527 (Value.bool false)).bind fun v528 =>
    (guardQ (gv (isB v528 false) (Value.bool true)) true (Qbin Tryd.prog .lss 3 (Value.int .i64 0) (gv (isB (gv (isB v528 false) (Value.bool true)) true) aE))).bind fun v529 =>
    (guardQ (gv (isB (gv (isB v528 false) (Value.bool true)) true) v529) true (Qbin Tryd.prog .lss 3 (gv (isB (gv (isB (gv (isB v528 false) (Value.bool true)) true) v529) true) aE) (Value.int .i64 19))).bind fun v530 =>
    (guardQ (gv (isB v528 false) (Value.bool true)) true (Qpick (gv (isB (gv (isB v528 false) (Value.bool true)) true) v529) v530 (Value.bool false))).bind fun v531 =>
    (guardQ v528 false (Qpick (gv (isB v528 false) (Value.bool true)) v531 (Value.bool false))).bind fun v532 =>
    (Qpick v528 (Value.bool true) v532).bind fun v533 =>
    K Exit.normal ⟨[aA,aB,aC,aD,aE,aF,aG,aH,aI,aJ,aK,aL,aM, (Value.bool false), (gv (isB (Value.bool false) true) aE), v525, (gv (isB (Value.bool false) true) v525), (gv (isB (gv (isB (Value.bool false) true) v525) true) aE), v526, v527, v528, v528, (gv (isB v528 false) (Value.bool true)), (gv (isB (gv (isB v528 false) (Value.bool true)) true) aE), v529, (gv (isB (gv (isB v528 false) (Value.bool true)) true) v529), (gv (isB (gv (isB (gv (isB v528 false) (Value.bool true)) true) v529) true) aE), v530, v531, v532, v533, bF,bG,bH,bI,bJ,bK,bL,bM,bN,bO,bP,bQ,bR,bS,bT,bU,bV,bW,bX,bY,bZ,cA,cB,cC,cD,cE,cF,cG,cH,cI,cJ,cK,cL,cM,cN,cO,cP,cQ,cR,cS,cT,cU,cV,cW,cX,cY].toArray, []⟩ w := by kernel_rfl
set_option maxRecDepth 100000 in
theorem s63J0eq (w : World) : s63J0 [aA,aB,aC,aD,aE,aF,aG,aH,aI,aJ,aK,aL,aM,aN,aO,aP,aQ,aR,aS,aT,aU,aV,aW,aX,aY,aZ,bA,bB,bC,bD,bE,bF,bG,bH,bI,bJ,bK,bL,bM,bN,bO,bP,bQ,bR,bS,bT,bU,bV,bW,bX,bY,bZ,cA,cB,cC,cD,cE,cF,cG,cH,cI,cJ,cK,cL,cM,cN,cO,cP,cQ,cR,cS,cT,cU,cV,cW,cX,cY] [] w = s63M0raw aA aB aC aD aE aF aG aH aI aJ aK aL aM aN aO aP aQ aR aS aT aU aV aW aX aY aZ bA bB bC bD bE bF bG bH bI bJ bK bL bM bN bO bP bQ bR bS bT bU bV bW bX bY bZ cA cB cC cD cE cF cG cH cI cJ cK cL cM cN cO cP cQ cR cS cT cU cV cW cX cY w := (show _ = seqK (fun a w => evK Tryd.prog 63 none (nav [1, 1] (bodyOf Tryd.f63)) none _ a w (leaveK Tryd.prog Tryd.f63)) (leaveK Tryd.prog Tryd.f63) .normal ⟨[aA,aB,aC,aD,aE,aF,aG,aH,aI,aJ,aK,aL,aM,aN,aO,aP,aQ,aR,aS,aT,aU,aV,aW,aX,aY,aZ,bA,bB,bC,bD,bE,bF,bG,bH,bI,bJ,bK,bL,bM,bN,bO,bP,bQ,bR,bS,bT,bU,bV,bW,bX,bY,bZ,cA,cB,cC,cD,cE,cF,cG,cH,cI,cJ,cK,cL,cM,cN,cO,cP,cQ,cR,cS,cT,cU,cV,cW,cX,cY].toArray, []⟩ w from by kernel_rfl).trans ((seqK_n (fun a w => evK Tryd.prog 63 none (nav [1, 1] (bodyOf Tryd.f63)) none _ a w (leaveK Tryd.prog Tryd.f63)) (leaveK Tryd.prog Tryd.f63) ⟨[aA,aB,aC,aD,aE,aF,aG,aH,aI,aJ,aK,aL,aM,aN,aO,aP,aQ,aR,aS,aT,aU,aV,aW,aX,aY,aZ,bA,bB,bC,bD,bE,bF,bG,bH,bI,bJ,bK,bL,bM,bN,bO,bP,bQ,bR,bS,bT,bU,bV,bW,bX,bY,bZ,cA,cB,cC,cD,cE,cF,cG,cH,cI,cJ,cK,cL,cM,cN,cO,cP,cQ,cR,cS,cT,cU,cV,cW,cX,cY].toArray, []⟩ w).trans ((show evK Tryd.prog 63 none (nav [1, 1] (bodyOf Tryd.f63)) none _ ⟨[aA,aB,aC,aD,aE,aF,aG,aH,aI,aJ,aK,aL,aM,aN,aO,aP,aQ,aR,aS,aT,aU,aV,aW,aX,aY,aZ,bA,bB,bC,bD,bE,bF,bG,bH,bI,bJ,bK,bL,bM,bN,bO,bP,bQ,bR,bS,bT,bU,bV,bW,bX,bY,bZ,cA,cB,cC,cD,cE,cF,cG,cH,cI,cJ,cK,cL,cM,cN,cO,cP,cQ,cR,cS,cT,cU,cV,cW,cX,cY].toArray, []⟩ w (leaveK Tryd.prog Tryd.f63) = evK Tryd.prog 63 none (nav [1, 1, 0, 0] (bodyOf Tryd.f63)) none _ ⟨[aA,aB,aC,aD,aE,aF,aG,aH,aI,aJ,aK,aL,aM,aN,aO,aP,aQ,aR,aS,aT,aU,aV,aW,aX,aY,aZ,bA,bB,bC,bD,bE,bF,bG,bH,bI,bJ,bK,bL,bM,bN,bO,bP,bQ,bR,bS,bT,bU,bV,bW,bX,bY,bZ,cA,cB,cC,cD,cE,cF,cG,cH,cI,cJ,cK,cL,cM,cN,cO,cP,cQ,cR,cS,cT,cU,cV,cW,cX,cY].toArray, []⟩ w s63K2 from by kernel_rfl).trans ((s63J0rg s63K2 w).trans (by kernel_rfl))))
set_option maxRecDepth 100000 in
theorem s63J0of {w : World} {r : _} (h : s63M0 aA aC aD aE w = some r) : s63J0 [aA,aB,aC,aD,aE,aF,aG,aH,aI,aJ,aK,aL,aM,aN,aO,aP,aQ,aR,aS,aT,aU,aV,aW,aX,aY,aZ,bA,bB,bC,bD,bE,bF,bG,bH,bI,bJ,bK,bL,bM,bN,bO,bP,bQ,bR,bS,bT,bU,bV,bW,bX,bY,bZ,cA,cB,cC,cD,cE,cF,cG,cH,cI,cJ,cK,cL,cM,cN,cO,cP,cQ,cR,cS,cT,cU,cV,cW,cX,cY] [] w = some r :=
  ((s63J0eq w).trans ((Ev.bind_mono fun (_ : Value) => (Ev.bind_mono fun (_ : Value) => (Ev.bind_mono fun (_ : Value) => (Ev.bind_mono fun (_ : Value) => (Ev.bind_mono fun (_ : Value) => (Ev.bind_mono fun (_ : Value) => (Ev.bind_mono fun (_ : Value) => (Ev.bind_mono fun (_ : Value) => (Ev.bind_mono fun (_ : Value) => (s63J2of)))))))))) h))
theorem s63eq (x0 : Value) (w : World) : evK Tryd.prog 63 none (bodyOf Tryd.f63) none _ { tmps := (([x0] : List Value) ++ List.replicate (77 - 1) undef).toArray, defers := [] } w (leaveK Tryd.prog Tryd.f63) = s63raw x0 w := by kernel_rfl
set_option maxRecDepth 100000 in
theorem c63 {x0 : Value} {w : World} {r : Value × World} (h : s63 x0 w = some r) : C Tryd.prog 63 #[x0] w = some r :=
  C_ev follows_all drawLaw (by kernel_rfl) Tryd.func63 (by rfl) ((s63eq x0 w).trans (show s63raw x0 w = some r from (Ev.bind_mono fun (_ : Value) => (s63J0of)) h))
theorem e63 {x0 : Value} {w : World} {Q : Value × World → Prop} (h : Brings (s63 x0 w) Q) : Brings (Xcall Tryd.prog (Value.func (Fn.func 63) #[] #[]) #[x0] w) Q :=
  h.call (Xcall_fn Tryd.func63 (by decide +kernel) (by rfl) _ _ _ w) fun _ h => c63 h

/-! strconv.toError -/
noncomputable def s64 (x0 x1 x2 x3 x4 : Value) (w : World) : Option (Value × World) :=
  (Qiface Tryd.prog 137 (Value.int .i64 2)).bind fun v569 =>
  (Qbin Tryd.prog .eql 95 x4 v569).bind fun v570 =>
  condK v570 (
    (Xcall Tryd.prog (Value.func (Fn.func 81) #[] #[]) #[x0, x1] w).bind fun r571 =>
    (Qiface Tryd.prog 140 r571.1).bind fun v572 =>
    some (v572, r571.2)
  ) (
    (Qiface Tryd.prog 137 (Value.int .i64 1)).bind fun v573 =>
    (Qbin Tryd.prog .eql 95 x4 v573).bind fun v574 =>
    condK v574 (
      (Xcall Tryd.prog (Value.func (Fn.func 82) #[] #[]) #[x0, x1] w).bind fun r575 =>
      (Qiface Tryd.prog 140 r575.1).bind fun v576 =>
      some (v576, r575.2)
    ) (
      (Qiface Tryd.prog 137 (Value.int .i64 3)).bind fun v577 =>
      (Qbin Tryd.prog .eql 95 x4 v577).bind fun v578 =>
      condK v578 (
        (Xcall Tryd.prog (Value.func (Fn.func 83) #[] #[]) #[x0, x1, x2] w).bind fun r579 =>
        (Qiface Tryd.prog 140 r579.1).bind fun v580 =>
        some (v580, r579.2)
      ) (
        (Qiface Tryd.prog 137 (Value.int .i64 4)).bind fun v581 =>
        (Qbin Tryd.prog .eql 95 x4 v581).bind fun v582 =>
        condK v582 (
          (Xcall Tryd.prog (Value.func (Fn.func 84) #[] #[]) #[x0, x1, x3] w).bind fun r583 =>
          (Qiface Tryd.prog 140 r583.1).bind fun v584 =>
          some (v584, r583.2)
        ) (
          some (x4, w)
        )
      )
    )
  )
theorem s64eq (x0 x1 x2 x3 x4 : Value) (w : World) : evK Tryd.prog 64 none (bodyOf Tryd.f64) none _ { tmps := (([x0, x1, x2, x3, x4] : List Value) ++ List.replicate (43 - 5) undef).toArray, defers := [] } w (leaveK Tryd.prog Tryd.f64) = s64 x0 x1 x2 x3 x4 w := by kernel_rfl
theorem c64 {x0 x1 x2 x3 x4 : Value} {w : World} {r : Value × World} (h : s64 x0 x1 x2 x3 x4 w = some r) : C Tryd.prog 64 #[x0, x1, x2, x3, x4] w = some r :=
  C_ev follows_all drawLaw (by kernel_rfl) Tryd.func64 (by rfl) ((s64eq x0 x1 x2 x3 x4 w).trans h)
theorem e64 {x0 x1 x2 x3 x4 : Value} {w : World} {Q : Value × World → Prop} (h : Brings (s64 x0 x1 x2 x3 x4 w) Q) : Brings (Xcall Tryd.prog (Value.func (Fn.func 64) #[] #[]) #[x0, x1, x2, x3, x4] w) Q :=
  h.call (Xcall_fn Tryd.func64 (by decide +kernel) (by rfl) _ _ _ w) fun _ h => c64 h

/-! internal/strconv.ParseInt -/
noncomputable def s80K0 : Exit → Act → World → Option (Value × World) := seqK (fun a w => evK Tryd.prog 80 none (nav [1, 1] (bodyOf Tryd.f80)) none _ a w (leaveK Tryd.prog Tryd.f80)) (leaveK Tryd.prog Tryd.f80)
noncomputable def s80J0 (s : List Value) (d : List Deferred) (w : World) : Option (Value × World) := s80K0 .normal ⟨s.toArray, d⟩ w
noncomputable def s80K1 : Exit → Act → World → Option (Value × World) := seqK (fun a w => evK Tryd.prog 80 none (nav [1, 0, 1] (bodyOf Tryd.f80)) none _ a w s80K0) s80K0
noncomputable def s80J1 (s : List Value) (d : List Deferred) (w : World) : Option (Value × World) := s80K1 .normal ⟨s.toArray, d⟩ w
noncomputable def s80K2 : Exit → Act → World → Option (Value × World) := seqK (fun a w => evK Tryd.prog 80 none (nav [1, 1, 1, 1] (bodyOf Tryd.f80)) none _ a w (leaveK Tryd.prog Tryd.f80)) (leaveK Tryd.prog Tryd.f80)
noncomputable def s80J2 (s : List Value) (d : List Deferred) (w : World) : Option (Value × World) := s80K2 .normal ⟨s.toArray, d⟩ w
noncomputable def s80K3 : Exit → Act → World → Option (Value × World) := seqK (fun a w => evK Tryd.prog 80 none (nav [1, 1, 1, 0, 1] (bodyOf Tryd.f80)) none _ a w s80K2) s80K2
noncomputable def s80J3 (s : List Value) (d : List Deferred) (w : World) : Option (Value × World) := s80K3 .normal ⟨s.toArray, d⟩ w
noncomputable def s80K4 : Exit → Act → World → Option (Value × World) := seqK (fun a w => evK Tryd.prog 80 none (nav [1, 1, 1] (bodyOf Tryd.f80)) none _ a w (leaveK Tryd.prog Tryd.f80)) (leaveK Tryd.prog Tryd.f80)
noncomputable def s80K5 : Exit → Act → World → Option (Value × World) := seqK (fun a w => evK Tryd.prog 80 none (nav [1, 1, 1, 1, 1, 1] (bodyOf Tryd.f80)) none _ a w (leaveK Tryd.prog Tryd.f80)) (leaveK Tryd.prog Tryd.f80)
noncomputable def s80J4 (s : List Value) (d : List Deferred) (w : World) : Option (Value × World) := s80K5 .normal ⟨s.toArray, d⟩ w
noncomputable def s80K6 : Exit → Act → World → Option (Value × World) := seqK (fun a w => evK Tryd.prog 80 none (nav [1, 1, 1, 1, 1] (bodyOf Tryd.f80)) none _ a w (leaveK Tryd.prog Tryd.f80)) (leaveK Tryd.prog Tryd.f80)
noncomputable def s80K7 : Exit → Act → World → Option (Value × World) := blockK 0 s80K2
noncomputable def s80J5 (s : List Value) (d : List Deferred) (w : World) : Option (Value × World) := s80K7 .normal ⟨s.toArray, d⟩ w
noncomputable def s80K8 : Exit → Act → World → Option (Value × World) := seqK (fun a w => evK Tryd.prog 80 none (nav [1, 1, 1, 0, 1, 0, 1] (bodyOf Tryd.f80)) none _ a w s80K7) s80K7
noncomputable def s80J6 (s : List Value) (d : List Deferred) (w : World) : Option (Value × World) := s80K8 .normal ⟨s.toArray, d⟩ w
noncomputable def s80K9 : Exit → Act → World → Option (Value × World) := seqK (fun a w => evK Tryd.prog 80 none (nav [1, 1, 1, 1, 1, 1, 1] (bodyOf Tryd.f80)) none _ a w (leaveK Tryd.prog Tryd.f80)) (leaveK Tryd.prog Tryd.f80)
noncomputable def s80J7 (s : List Value) (d : List Deferred) (w : World) : Option (Value × World) := s80K9 .normal ⟨s.toArray, d⟩ w
noncomputable def s80K10 : Exit → Act → World → Option (Value × World) := seqK (fun a w => evK Tryd.prog 80 none (nav [1, 1, 1, 1, 1, 1, 0, 1] (bodyOf Tryd.f80)) none _ a w s80K9) s80K9
noncomputable def s80J8 (s : List Value) (d : List Deferred) (w : World) : Option (Value × World) := s80K10 .normal ⟨s.toArray, d⟩ w
noncomputable def s80K11 : Exit → Act → World → Option (Value × World) := seqK (fun a w => evK Tryd.prog 80 none (nav [1, 1, 1, 1, 1, 1, 1, 1] (bodyOf Tryd.f80)) none _ a w (leaveK Tryd.prog Tryd.f80)) (leaveK Tryd.prog Tryd.f80)
noncomputable def s80J9 (s : List Value) (d : List Deferred) (w : World) : Option (Value × World) := s80K11 .normal ⟨s.toArray, d⟩ w
noncomputable def s80K12 : Exit → Act → World → Option (Value × World) := seqK (fun a w => evK Tryd.prog 80 none (nav [1, 1, 1, 1, 1, 1, 1, 0, 1] (bodyOf Tryd.f80)) none _ a w s80K11) s80K11
noncomputable def s80J10 (s : List Value) (d : List Deferred) (w : World) : Option (Value × World) := s80K12 .normal ⟨s.toArray, d⟩ w
noncomputable def s80K13 : Exit → Act → World → Option (Value × World) := seqK (fun a w => evK Tryd.prog 80 none (nav [1, 1, 1, 1, 1, 1, 1, 1, 1] (bodyOf Tryd.f80)) none _ a w (leaveK Tryd.prog Tryd.f80)) (leaveK Tryd.prog Tryd.f80)
noncomputable def s80J11 (s : List Value) (d : List Deferred) (w : World) : Option (Value × World) := s80K13 .normal ⟨s.toArray, d⟩ w
noncomputable def s80K14 : Exit → Act → World → Option (Value × World) := seqK (fun a w => evK Tryd.prog 80 none (nav [1, 1, 1, 1, 1, 1, 1, 1, 1, 1] (bodyOf Tryd.f80)) none _ a w (leaveK Tryd.prog Tryd.f80)) (leaveK Tryd.prog Tryd.f80)
noncomputable def s80J12 (s : List Value) (d : List Deferred) (w : World) : Option (Value × World) := s80K14 .normal ⟨s.toArray, d⟩ w
noncomputable def s80K15 : Exit → Act → World → Option (Value × World) := seqK (fun a w => evK Tryd.prog 80 none (nav [1, 1, 1, 1, 1, 1, 1, 1, 1, 0, 1] (bodyOf Tryd.f80)) none _ a w s80K14) s80K14
noncomputable def s80J13 (s : List Value) (d : List Deferred) (w : World) : Option (Value × World) := s80K15 .normal ⟨s.toArray, d⟩ w
noncomputable def s80K16 : Exit → Act → World → Option (Value × World) := seqK (fun a w => evK Tryd.prog 80 none (nav [1, 1, 1, 1, 1, 1, 1, 1, 1, 1, 1] (bodyOf Tryd.f80)) none _ a w (leaveK Tryd.prog Tryd.f80)) (leaveK Tryd.prog Tryd.f80)
noncomputable def s80J14 (s : List Value) (d : List Deferred) (w : World) : Option (Value × World) := s80K16 .normal ⟨s.toArray, d⟩ w
noncomputable def s80K17 : Exit → Act → World → Option (Value × World) := seqK (fun a w => evK Tryd.prog 80 none (nav [1, 1, 1, 1, 1, 1, 1, 1, 1, 1, 0, 1] (bodyOf Tryd.f80)) none _ a w s80K16) s80K16
noncomputable def s80J15 (s : List Value) (d : List Deferred) (w : World) : Option (Value × World) := s80K17 .normal ⟨s.toArray, d⟩ w
noncomputable def s80K18 : Exit → Act → World → Option (Value × World) := seqK (fun a w => evK Tryd.prog 80 none (nav [1, 1, 1, 1, 1, 1, 1, 1, 1, 1, 1, 1] (bodyOf Tryd.f80)) none _ a w (leaveK Tryd.prog Tryd.f80)) (leaveK Tryd.prog Tryd.f80)
noncomputable def s80J16 (s : List Value) (d : List Deferred) (w : World) : Option (Value × World) := s80K18 .normal ⟨s.toArray, d⟩ w
noncomputable def s80M16 (s8 s11 : Value) (w : World) : Option (Value × World) :=
  condK s8 (
    (Qun .neg s11).bind fun v632 =>
    some ((Value.tuple #[v632, Value.nilIface]), w)
  ) (
    some ((Value.tuple #[s11, Value.nilIface]), w)
  )
noncomputable def s80M14raw (aA aB aC aD aE aF aG aH aI aJ aK _ aM aN aO aP aQ aR aS aT aU aV aW aX aY aZ bA bB bC bD bE bF bG bH bI bJ bK bL bM bN bO bP bQ bR bS bT bU bV bW bX bY bZ cA cB cC cD cE cF cG cH cI cJ cK cL cM cN cO _ _ cR cS cT cU : Value) (w : World) : Option (Value × World) :=
  (Qconv Tryd.prog 63 2 aJ).bind fun v627 =>
  s80J16 [aA,aB,aC,aD,aE,aF,aG,aH,aI,aJ,aK, v627, aM,aN,aO,aP,aQ,aR,aS,aT,aU,aV,aW,aX,aY,aZ,bA,bB,bC,bD,bE,bF,bG,bH,bI,bJ,bK,bL,bM,bN,bO,bP,bQ,bR,bS,bT,bU,bV,bW,bX,bY,bZ,cA,cB,cC,cD,cE,cF,cG,cH,cI,cJ,cK,cL,cM,cN,cO,aJ, v627, cR,cS,cT,cU] [] w
noncomputable def s80M14 (s8 s9 : Value) (w : World) : Option (Value × World) :=
  (Qconv Tryd.prog 63 2 s9).bind fun v627 =>
  s80M16 s8 v627 w
noncomputable def s80M15raw (aA aB aC aD aE aF aG aH aI aJ aK aL aM aN aO aP aQ aR aS aT aU aV aW aX aY aZ bA bB bC bD bE bF bG bH bI bJ bK bL bM bN bO bP bQ bR bS bT bU bV bW bX bY bZ cA cB cC cD cE cF cG cH cI cJ cK cL cM cN cO cP cQ cR cS cT cU : Value) (w : World) : Option (Value × World) :=
  condK cK (
    (Qconv Tryd.prog 63 2 aK).bind fun v629 =>
    (Qun .neg v629).bind fun v630 =>
    (Qiface Tryd.prog 137 (Value.int .i64 1)).bind fun v631 =>
    some ((Value.tuple #[v630, v631]), w)
  ) (
    s80J14 [aA,aB,aC,aD,aE,aF,aG,aH,aI,aJ,aK,aL,aM,aN,aO,aP,aQ,aR,aS,aT,aU,aV,aW,aX,aY,aZ,bA,bB,bC,bD,bE,bF,bG,bH,bI,bJ,bK,bL,bM,bN,bO,bP,bQ,bR,bS,bT,bU,bV,bW,bX,bY,bZ,cA,cB,cC,cD,cE,cF,cG,cH,cI,cJ,cK,cL,cM,cN,cO,cP,cQ,cR,cS,cT,cU] [] w
  )
noncomputable def s80M15 (s8 s9 s10 s62 : Value) (w : World) : Option (Value × World) :=
  condK s62 (
    (Qconv Tryd.prog 63 2 s10).bind fun v629 =>
    (Qun .neg v629).bind fun v630 =>
    (Qiface Tryd.prog 137 (Value.int .i64 1)).bind fun v631 =>
    some ((Value.tuple #[v630, v631]), w)
  ) (
    s80M14 s8 s9 w
  )
noncomputable def s80M12raw (aA aB aC aD aE aF aG aH aI aJ aK aL aM aN aO aP aQ aR aS aT aU aV aW aX aY aZ bA bB bC bD bE bF bG bH bI bJ bK bL bM bN bO bP bQ bR bS bT bU bV bW bX bY bZ cA cB cC cD cE _ _ _ _ _ _ cL cM cN cO cP cQ cR cS cT cU : Value) (w : World) : Option (Value × World) :=
  (guardQ aI true (Qbin Tryd.prog .gtr 63 (gv (isB aI true) aJ) (gv (isB aI true) aK))).bind fun v620 =>
  (Qpick aI v620 (Value.bool false)).bind fun v621 =>
  s80J15 [aA,aB,aC,aD,aE,aF,aG,aH,aI,aJ,aK,aL,aM,aN,aO,aP,aQ,aR,aS,aT,aU,aV,aW,aX,aY,aZ,bA,bB,bC,bD,bE,bF,bG,bH,bI,bJ,bK,bL,bM,bN,bO,bP,bQ,bR,bS,bT,bU,bV,bW,bX,bY,bZ,cA,cB,cC,cD,cE,aI,aI, (gv (isB aI true) aJ), (gv (isB aI true) aK), v620, v621, cL,cM,cN,cO,cP,cQ,cR,cS,cT,cU] [] w
noncomputable def s80M12 (s8 s9 s10 : Value) (w : World) : Option (Value × World) :=
  (guardQ s8 true (Qbin Tryd.prog .gtr 63 (gv (isB s8 true) s9) (gv (isB s8 true) s10))).bind fun v620 =>
  (Qpick s8 v620 (Value.bool false)).bind fun v621 =>
  s80M15 s8 s9 s10 v621 w
noncomputable def s80M13raw (aA aB aC aD aE aF aG aH aI aJ aK aL aM aN aO aP aQ aR aS aT aU aV aW aX aY aZ bA bB bC bD bE bF bG bH bI bJ bK bL bM bN bO bP bQ bR bS bT bU bV bW bX bY bZ cA cB cC cD cE cF cG cH cI cJ cK cL cM cN cO cP cQ cR cS cT cU : Value) (w : World) : Option (Value × World) :=
  condK cA (
    (Qbin Tryd.prog .sub 63 aK (Value.int .u64 1)).bind fun v624 =>
    (Qconv Tryd.prog 63 2 v624).bind fun v625 =>
    (Qiface Tryd.prog 137 (Value.int .i64 1)).bind fun v626 =>
    some ((Value.tuple #[v625, v626]), w)
  ) (
    s80J12 [aA,aB,aC,aD,aE,aF,aG,aH,aI,aJ,aK,aL,aM,aN,aO,aP,aQ,aR,aS,aT,aU,aV,aW,aX,aY,aZ,bA,bB,bC,bD,bE,bF,bG,bH,bI,bJ,bK,bL,bM,bN,bO,bP,bQ,bR,bS,bT,bU,bV,bW,bX,bY,bZ,cA,cB,cC,cD,cE,cF,cG,cH,cI,cJ,cK,cL,cM,cN,cO,cP,cQ,cR,cS,cT,cU] [] w
  )
noncomputable def s80M13 (s8 s9 s10 s52 : Value) (w : World) : Option (Value × World) :=
  condK s52 (
    (Qbin Tryd.prog .sub 63 s10 (Value.int .u64 1)).bind fun v624 =>
    (Qconv Tryd.prog 63 2 v624).bind fun v625 =>
    (Qiface Tryd.prog 137 (Value.int .i64 1)).bind fun v626 =>
    some ((Value.tuple #[v625, v626]), w)
  ) (
    s80M12 s8 s9 s10 w
  )
noncomputable def s80M11raw (aA aB aC aD aE aF aG aH aI aJ aK aL aM aN aO aP aQ aR aS aT aU aV aW aX aY aZ bA bB bC bD bE bF bG bH bI bJ bK bL bM bN bO bP bQ bR bS bT _ _ _ _ _ _ _ cB cC cD cE cF cG cH cI cJ cK cL cM cN cO cP cQ cR cS cT cU : Value) (w : World) : Option (Value × World) :=
  (Qun .not aI).bind fun v614 =>
  (guardQ v614 true (Qbin Tryd.prog .geq 63 (gv (isB v614 true) aJ) (gv (isB v614 true) aK))).bind fun v615 =>
  (Qpick v614 v615 (Value.bool false)).bind fun v616 =>
  s80J13 [aA,aB,aC,aD,aE,aF,aG,aH,aI,aJ,aK,aL,aM,aN,aO,aP,aQ,aR,aS,aT,aU,aV,aW,aX,aY,aZ,bA,bB,bC,bD,bE,bF,bG,bH,bI,bJ,bK,bL,bM,bN,bO,bP,bQ,bR,bS,bT,aI, v614, v614, (gv (isB v614 true) aJ), (gv (isB v614 true) aK), v615, v616, cB,cC,cD,cE,cF,cG,cH,cI,cJ,cK,cL,cM,cN,cO,cP,cQ,cR,cS,cT,cU] [] w
noncomputable def s80M11 (s8 s9 s10 : Value) (w : World) : Option (Value × World) :=
  (Qun .not s8).bind fun v614 =>
  (guardQ v614 true (Qbin Tryd.prog .geq 63 (gv (isB v614 true) s9) (gv (isB v614 true) s10))).bind fun v615 =>
  (Qpick v614 v615 (Value.bool false)).bind fun v616 =>
  s80M13 s8 s9 s10 v616 w
noncomputable def s80M9raw (aA aB aC aD aE aF aG aH aI aJ _ aL aM aN aO aP aQ aR aS aT aU aV aW aX aY aZ bA bB bC bD bE bF bG bH bI bJ bK bL bM bN bO bP _ _ _ _ bU bV bW bX bY bZ cA cB cC cD cE cF cG cH cI cJ cK cL cM cN cO cP cQ cR cS cT cU : Value) (w : World) : Option (Value × World) :=
  (Qbin Tryd.prog .sub 3 aC (Value.int .i64 1)).bind fun v608 =>
  (Qconv Tryd.prog 3 77 v608).bind fun v609 =>
  (Qbin Tryd.prog .shl 63 (Value.int .u64 1) v609).bind fun v610 =>
  s80J11 [aA,aB,aC,aD,aE,aF,aG,aH,aI,aJ, v610, aL,aM,aN,aO,aP,aQ,aR,aS,aT,aU,aV,aW,aX,aY,aZ,bA,bB,bC,bD,bE,bF,bG,bH,bI,bJ,bK,bL,bM,bN,bO,bP,aC, v608, v609, v610, bU,bV,bW,bX,bY,bZ,cA,cB,cC,cD,cE,cF,cG,cH,cI,cJ,cK,cL,cM,cN,cO,cP,cQ,cR,cS,cT,cU] [] w
noncomputable def s80M9 (s2 s8 s9 : Value) (w : World) : Option (Value × World) :=
  (Qbin Tryd.prog .sub 3 s2 (Value.int .i64 1)).bind fun v608 =>
  (Qconv Tryd.prog 3 77 v608).bind fun v609 =>
  (Qbin Tryd.prog .shl 63 (Value.int .u64 1) v609).bind fun v610 =>
  s80M11 s8 s9 v610 w
noncomputable def s80M10raw (aA aB aC aD aE aF aG aH aI aJ aK aL aM aN aO aP aQ aR aS aT aU aV aW aX aY aZ bA bB bC bD bE bF bG bH bI bJ bK bL bM bN bO bP bQ bR bS bT bU bV bW bX bY bZ cA cB cC cD cE cF cG cH cI cJ cK cL cM cN cO cP cQ cR cS cT cU : Value) (w : World) : Option (Value × World) :=
  condK bP (
    s80J9 [aA,aB, (Value.int .i64 64), aD,aE,aF,aG,aH,aI,aJ,aK,aL,aM,aN,aO,aP,aQ,aR,aS,aT,aU,aV,aW,aX,aY,aZ,bA,bB,bC,bD,bE,bF,bG,bH,bI,bJ,bK,bL,bM,bN,bO,bP,bQ,bR,bS,bT,bU,bV,bW,bX,bY,bZ,cA,cB,cC,cD,cE,cF,cG,cH,cI,cJ,cK,cL,cM,cN,cO,cP,cQ,cR,cS,cT,cU] [] w
  ) (
    s80J9 [aA,aB,aC,aD,aE,aF,aG,aH,aI,aJ,aK,aL,aM,aN,aO,aP,aQ,aR,aS,aT,aU,aV,aW,aX,aY,aZ,bA,bB,bC,bD,bE,bF,bG,bH,bI,bJ,bK,bL,bM,bN,bO,bP,bQ,bR,bS,bT,bU,bV,bW,bX,bY,bZ,cA,cB,cC,cD,cE,cF,cG,cH,cI,cJ,cK,cL,cM,cN,cO,cP,cQ,cR,cS,cT,cU] [] w
  )
noncomputable def s80M10 (s2 s8 s9 s41 : Value) (w : World) : Option (Value × World) :=
  condK s41 (
    s80M9 (Value.int .i64 64) s8 s9 w
  ) (
    s80M9 s2 s8 s9 w
  )
noncomputable def s80M7raw (aA aB aC aD aE aF aG aH aI aJ aK aL aM aN aO aP aQ aR aS aT aU aV aW aX aY aZ bA bB bC bD bE bF bG bH bI bJ bK bL bM bN _ _ bQ bR bS bT bU bV bW bX bY bZ cA cB cC cD cE cF cG cH cI cJ cK cL cM cN cO cP cQ cR cS cT cU : Value) (w : World) : Option (Value × World) :=
  (Qbin Tryd.prog .eql 3 aC (Value.int .i64 0)).bind fun v606 =>
  s80J10 [aA,aB,aC,aD,aE,aF,aG,aH,aI,aJ,aK,aL,aM,aN,aO,aP,aQ,aR,aS,aT,aU,aV,aW,aX,aY,aZ,bA,bB,bC,bD,bE,bF,bG,bH,bI,bJ,bK,bL,bM,bN,aC, v606, bQ,bR,bS,bT,bU,bV,bW,bX,bY,bZ,cA,cB,cC,cD,cE,cF,cG,cH,cI,cJ,cK,cL,cM,cN,cO,cP,cQ,cR,cS,cT,cU] [] w
noncomputable def s80M7 (s2 s8 s9 : Value) (w : World) : Option (Value × World) :=
  (Qbin Tryd.prog .eql 3 s2 (Value.int .i64 0)).bind fun v606 =>
  s80M10 s2 s8 s9 v606 w
noncomputable def s80M8raw (aA aB aC aD aE aF aG aH aI aJ aK aL aM aN aO aP aQ aR aS aT aU aV aW aX aY aZ bA bB bC bD bE bF bG bH bI bJ bK bL bM bN bO bP bQ bR bS bT bU bV bW bX bY bZ cA cB cC cD cE cF cG cH cI cJ cK cL cM cN cO cP cQ cR cS cT cU : Value) (w : World) : Option (Value × World) :=
  condK bM (
    some ((Value.tuple #[(Value.int .i64 0), aH]), w)
  ) (
    s80J7 [aA,aB,aC,aD,aE,aF,aG,aH,aI,aJ,aK,aL,aM,aN,aO,aP,aQ,aR,aS,aT,aU,aV,aW,aX,aY,aZ,bA,bB,bC,bD,bE,bF,bG,bH,bI,bJ,bK,bL,bM,bN,bO,bP,bQ,bR,bS,bT,bU,bV,bW,bX,bY,bZ,cA,cB,cC,cD,cE,cF,cG,cH,cI,cJ,cK,cL,cM,cN,cO,cP,cQ,cR,cS,cT,cU] [] w
  )
noncomputable def s80M8 (s2 s7 s8 s9 s38 : Value) (w : World) : Option (Value × World) :=
  condK s38 (
    some ((Value.tuple #[(Value.int .i64 0), s7]), w)
  ) (
    s80M7 s2 s8 s9 w
  )
noncomputable def s80M4raw (aA aB aC aD aE aF aG aH aI aJ aK aL aM aN aO aP aQ aR aS aT aU aV aW aX aY aZ bA bB bC bD bE bF _ _ _ _ _ _ _ bN bO bP bQ bR bS bT bU bV bW bX bY bZ cA cB cC cD cE cF cG cH cI cJ cK cL cM cN cO cP cQ cR cS cT cU : Value) (w : World) : Option (Value × World) :=
  (QbinN Tryd.prog .neq 95 aH).bind fun v592 =>
  (guardQ v592 true (Qiface Tryd.prog 137 (Value.int .i64 1))).bind fun v593 =>
  (guardQ v592 true (Qbin Tryd.prog .neq 95 (gv (isB v592 true) aH) v593)).bind fun v594 =>
  (Qpick v592 v594 (Value.bool false)).bind fun v595 =>
  s80J8 [aA,aB,aC,aD,aE,aF,aG,aH,aI,aJ,aK,aL,aM,aN,aO,aP,aQ,aR,aS,aT,aU,aV,aW,aX,aY,aZ,bA,bB,bC,bD,bE,bF,aH, v592, v592, (gv (isB v592 true) aH), v593, v594, v595, bN,bO,bP,bQ,bR,bS,bT,bU,bV,bW,bX,bY,bZ,cA,cB,cC,cD,cE,cF,cG,cH,cI,cJ,cK,cL,cM,cN,cO,cP,cQ,cR,cS,cT,cU] [] w
noncomputable def s80M4 (s2 s7 s8 s9 : Value) (w : World) : Option (Value × World) :=
  (QbinN Tryd.prog .neq 95 s7).bind fun v592 =>
  (guardQ v592 true (Qiface Tryd.prog 137 (Value.int .i64 1))).bind fun v593 =>
  (guardQ v592 true (Qbin Tryd.prog .neq 95 (gv (isB v592 true) s7) v593)).bind fun v594 =>
  (Qpick v592 v594 (Value.bool false)).bind fun v595 =>
  s80M8 s2 s7 s8 s9 v595 w
noncomputable def s80M2raw (aA aB aC aD aE aF aG _ aI _ aK aL aM aN aO aP aQ aR aS aT aU aV aW aX aY _ _ _ _ _ _ _ bG bH bI bJ bK bL bM bN bO bP bQ bR bS bT bU bV bW bX bY bZ cA cB cC cD cE cF cG cH cI cJ cK cL cM cN cO cP cQ cR cS cT cU : Value) (w : World) : Option (Value × World) :=
  (Xcall Tryd.prog (Value.func (Fn.func 97) #[] #[]) #[aA,aB,aC] w).bind fun r588 =>
  (Qext r588.1 0).bind fun v589 =>
  (Qext r588.1 1).bind fun v590 =>
  s80J4 [aA,aB,aC,aD,aE,aF,aG, v590, aI, v589, aK,aL,aM,aN,aO,aP,aQ,aR,aS,aT,aU,aV,aW,aX,aY, r588.1, aA,aB,aC, r588.1, v589, v590, bG,bH,bI,bJ,bK,bL,bM,bN,bO,bP,bQ,bR,bS,bT,bU,bV,bW,bX,bY,bZ,cA,cB,cC,cD,cE,cF,cG,cH,cI,cJ,cK,cL,cM,cN,cO,cP,cQ,cR,cS,cT,cU] [] r588.2
noncomputable def s80M2 (s0 s1 s2 s8 : Value) (w : World) : Option (Value × World) :=
  (Xcall Tryd.prog (Value.func (Fn.func 97) #[] #[]) #[s0, s1, s2] w).bind fun r588 =>
  (Qext r588.1 0).bind fun v589 =>
  (Qext r588.1 1).bind fun v590 =>
  s80M4 s2 v590 s8 v589 r588.2
noncomputable def s80M5raw (aA aB aC aD aE aF aG aH aI aJ aK aL aM aN aO aP aQ aR aS aT aU aV aW aX aY aZ bA bB bC bD bE bF bG bH bI bJ bK bL bM bN bO bP bQ bR bS bT bU bV bW bX bY bZ cA cB cC cD cE cF cG cH cI cJ cK cL cM cN cO cP cQ cR cS cT cU : Value) (w : World) : Option (Value × World) :=
  s80J2 [aA,aB,aC,aD,aE,aF,aG,aH,aI,aJ,aK,aL,aM,aN,aO,aP,aQ,aR,aS,aT,aU,aV,aW,aX,aY,aZ,bA,bB,bC,bD,bE,bF,bG,bH,bI,bJ,bK,bL,bM,bN,bO,bP,bQ,bR,bS,bT,bU,bV,bW,bX,bY,bZ,cA,cB,cC,cD,cE,cF,cG,cH,cI,cJ,cK,cL,cM,cN,cO,cP,cQ,cR,cS,cT,cU] [] w
noncomputable def s80M5 (s0 s1 s2 s8 : Value) (w : World) : Option (Value × World) :=
  s80M2 s0 s1 s2 s8 w
noncomputable def s80M6raw (aA aB aC aD aE aF aG aH aI aJ aK aL aM aN aO aP aQ aR aS aT aU aV aW aX aY aZ bA bB bC bD bE bF bG bH bI bJ bK bL bM bN bO bP bQ bR bS bT bU bV bW bX bY bZ cA cB cC cD cE cF cG cH cI cJ cK cL cM cN cO cP cQ cR cS cT cU : Value) (w : World) : Option (Value × World) :=
  condK aR (
    (Qslice Tryd.prog 9 aA (some (Value.int .i64 1)) none none w).bind fun v600 =>
    s80J5 [v600, aB,aC,aD,aE,aF,aG,aH,aI,aJ,aK,aL,aM,aN,aO,aP,aQ,aR,aS,aA, v600, aV,aW,aX,aY,aZ,bA,bB,bC,bD,bE,bF,bG,bH,bI,bJ,bK,bL,bM,bN,bO,bP,bQ,bR,bS,bT,bU,bV,bW,bX,bY,bZ,cA,cB,cC,cD,cE,cF,cG,cH,cI,cJ,cK,cL,cM,cN,cO,cP,cQ,cR,cS,cT,cU] [] w
  ) (
    (Qbin Tryd.prog .eql 5 aQ (Value.int .u8 45)).bind fun v601 =>
    condK v601 (
      (Qslice Tryd.prog 9 aA (some (Value.int .i64 1)) none none w).bind fun v602 =>
      s80J5 [v602, aB,aC,aD,aE,aF,aG,aH, (Value.bool true), aJ,aK,aL,aM,aN,aO,aP,aQ,aR,aS,aT,aU, v601, v601, aA, v602, aZ,bA,bB,bC,bD,bE,bF,bG,bH,bI,bJ,bK,bL,bM,bN,bO,bP,bQ,bR,bS,bT,bU,bV,bW,bX,bY,bZ,cA,cB,cC,cD,cE,cF,cG,cH,cI,cJ,cK,cL,cM,cN,cO,cP,cQ,cR,cS,cT,cU] [] w
    ) (
      s80J5 [aA,aB,aC,aD,aE,aF,aG,aH,aI,aJ,aK,aL,aM,aN,aO,aP,aQ,aR,aS,aT,aU, v601, v601, aX,aY,aZ,bA,bB,bC,bD,bE,bF,bG,bH,bI,bJ,bK,bL,bM,bN,bO,bP,bQ,bR,bS,bT,bU,bV,bW,bX,bY,bZ,cA,cB,cC,cD,cE,cF,cG,cH,cI,cJ,cK,cL,cM,cN,cO,cP,cQ,cR,cS,cT,cU] [] w
    )
  )
noncomputable def s80M6 (s0 s1 s2 s8 s16 s17 : Value) (w : World) : Option (Value × World) :=
  condK s17 (
    (Qslice Tryd.prog 9 s0 (some (Value.int .i64 1)) none none w).bind fun v600 =>
    s80M5 v600 s1 s2 s8 w
  ) (
    (Qbin Tryd.prog .eql 5 s16 (Value.int .u8 45)).bind fun v601 =>
    condK v601 (
      (Qslice Tryd.prog 9 s0 (some (Value.int .i64 1)) none none w).bind fun v602 =>
      s80M5 v602 s1 s2 (Value.bool true) w
    ) (
      s80M5 s0 s1 s2 s8 w
    )
  )
noncomputable def s80M3raw (aA aB aC aD aE aF aG aH aI aJ aK aL aM aN aO aP aQ _ _ aT aU aV aW aX aY aZ bA bB bC bD bE bF bG bH bI bJ bK bL bM bN bO bP bQ bR bS bT bU bV bW bX bY bZ cA cB cC cD cE cF cG cH cI cJ cK cL cM cN cO cP cQ cR cS cT cU : Value) (w : World) : Option (Value × World) :=
  (Qbin Tryd.prog .eql 5 aQ (Value.int .u8 43)).bind fun v591 =>
  s80J6 [aA,aB,aC,aD,aE,aF,aG,aH,aI,aJ,aK,aL,aM,aN,aO,aP,aQ, v591, v591, aT,aU,aV,aW,aX,aY,aZ,bA,bB,bC,bD,bE,bF,bG,bH,bI,bJ,bK,bL,bM,bN,bO,bP,bQ,bR,bS,bT,bU,bV,bW,bX,bY,bZ,cA,cB,cC,cD,cE,cF,cG,cH,cI,cJ,cK,cL,cM,cN,cO,cP,cQ,cR,cS,cT,cU] [] w
noncomputable def s80M3 (s0 s1 s2 s8 s16 : Value) (w : World) : Option (Value × World) :=
  (Qbin Tryd.prog .eql 5 s16 (Value.int .u8 43)).bind fun v591 =>
  s80M6 s0 s1 s2 s8 s16 v591 w
noncomputable def s80M0raw (aA aB aC aD aE aF aG aH _ aJ aK aL aM aN aO _ _ aR aS aT aU aV aW aX aY aZ bA bB bC bD bE bF bG bH bI bJ bK bL bM bN bO bP bQ bR bS bT bU bV bW bX bY bZ cA cB cC cD cE cF cG cH cI cJ cK cL cM cN cO cP cQ cR cS cT cU : Value) (w : World) : Option (Value × World) :=
  (Qindex Tryd.prog 9 aA (Value.int .i64 0) w).bind fun v586 =>
  s80J3 [aA,aB,aC,aD,aE,aF,aG,aH, (Value.bool false), aJ,aK,aL,aM,aN,aO,aA, v586, aR,aS,aT,aU,aV,aW,aX,aY,aZ,bA,bB,bC,bD,bE,bF,bG,bH,bI,bJ,bK,bL,bM,bN,bO,bP,bQ,bR,bS,bT,bU,bV,bW,bX,bY,bZ,cA,cB,cC,cD,cE,cF,cG,cH,cI,cJ,cK,cL,cM,cN,cO,cP,cQ,cR,cS,cT,cU] [] w
noncomputable def s80M0 (s0 s1 s2 : Value) (w : World) : Option (Value × World) :=
  (Qindex Tryd.prog 9 s0 (Value.int .i64 0) w).bind fun v586 =>
  s80M3 s0 s1 s2 (Value.bool false) v586 w
noncomputable def s80M1raw (aA aB aC aD aE aF aG aH aI aJ aK aL aM aN aO aP aQ aR aS aT aU aV aW aX aY aZ bA bB bC bD bE bF bG bH bI bJ bK bL bM bN bO bP bQ bR bS bT bU bV bW bX bY bZ cA cB cC cD cE cF cG cH cI cJ cK cL cM cN cO cP cQ cR cS cT cU : Value) (w : World) : Option (Value × World) :=
  condK aN (
    (Qiface Tryd.prog 137 (Value.int .i64 2)).bind fun v587 =>
    some ((Value.tuple #[(Value.int .i64 0), v587]), w)
  ) (
    s80J0 [aA,aB,aC,aD,aE,aF,aG,aH,aI,aJ,aK,aL,aM,aN,aO,aP,aQ,aR,aS,aT,aU,aV,aW,aX,aY,aZ,bA,bB,bC,bD,bE,bF,bG,bH,bI,bJ,bK,bL,bM,bN,bO,bP,bQ,bR,bS,bT,bU,bV,bW,bX,bY,bZ,cA,cB,cC,cD,cE,cF,cG,cH,cI,cJ,cK,cL,cM,cN,cO,cP,cQ,cR,cS,cT,cU] [] w
  )
noncomputable def s80M1 (s0 s1 s2 s13 : Value) (w : World) : Option (Value × World) :=
  condK s13 (
    (Qiface Tryd.prog 137 (Value.int .i64 2)).bind fun v587 =>
    some ((Value.tuple #[(Value.int .i64 0), v587]), w)
  ) (
    s80M0 s0 s1 s2 w
  )
noncomputable def s80raw (x0 x1 x2 : Value) (w : World) : Option (Value × World) :=
  (Qbin Tryd.prog .eql 9 x0 (Value.string { data := #[] })).bind fun v585 =>
  s80J1 [x0, x1, x2, undef, undef, undef, (Value.int .i64 0), Value.nilIface, undef, undef, undef, undef, x0, v585, undef, undef, undef, undef, undef, undef, undef, undef, undef, undef, undef, undef, undef, undef, undef, undef, undef, undef, undef, undef, undef, undef, undef, undef, undef, undef, undef, undef, undef, undef, undef, undef, undef, undef, undef, undef, undef, undef, undef, undef, undef, undef, undef, undef, undef, undef, undef, undef, undef, undef, undef, undef, undef, undef, undef, undef, undef, undef, undef] [] w
noncomputable def s80 (x0 x1 x2 : Value) (w : World) : Option (Value × World) :=
  (Qbin Tryd.prog .eql 9 x0 (Value.string { data := #[] })).bind fun v585 =>
  s80M1 x0 x1 x2 v585 w
set_option maxRecDepth 100000 in
theorem s80J16eq (w : World) : s80J16 [aA,aB,aC,aD,aE,aF,aG,aH,aI,aJ,aK,aL,aM,aN,aO,aP,aQ,aR,aS,aT,aU,aV,aW,aX,aY,aZ,bA,bB,bC,bD,bE,bF,bG,bH,bI,bJ,bK,bL,bM,bN,bO,bP,bQ,bR,bS,bT,bU,bV,bW,bX,bY,bZ,cA,cB,cC,cD,cE,cF,cG,cH,cI,cJ,cK,cL,cM,cN,cO,cP,cQ,cR,cS,cT,cU] [] w = s80M16 aI aL w := (show _ = evK Tryd.prog 80 none (nav [1, 1, 1, 1, 1, 1, 1, 1, 1, 1, 1, 1] (bodyOf Tryd.f80)) none _ ⟨[aA,aB,aC,aD,aE,aF,aG,aH,aI,aJ,aK,aL,aM,aN,aO,aP,aQ,aR,aS,aT,aU,aV,aW,aX,aY,aZ,bA,bB,bC,bD,bE,bF,bG,bH,bI,bJ,bK,bL,bM,bN,bO,bP,bQ,bR,bS,bT,bU,bV,bW,bX,bY,bZ,cA,cB,cC,cD,cE,cF,cG,cH,cI,cJ,cK,cL,cM,cN,cO,cP,cQ,cR,cS,cT,cU].toArray, []⟩ w (leaveK Tryd.prog Tryd.f80) from by kernel_rfl).trans (by kernel_rfl)
set_option maxRecDepth 100000 in
theorem s80J16of {w : World} {r : _} (h : s80M16 aI aL w = some r) : s80J16 [aA,aB,aC,aD,aE,aF,aG,aH,aI,aJ,aK,aL,aM,aN,aO,aP,aQ,aR,aS,aT,aU,aV,aW,aX,aY,aZ,bA,bB,bC,bD,bE,bF,bG,bH,bI,bJ,bK,bL,bM,bN,bO,bP,bQ,bR,bS,bT,bU,bV,bW,bX,bY,bZ,cA,cB,cC,cD,cE,cF,cG,cH,cI,cJ,cK,cL,cM,cN,cO,cP,cQ,cR,cS,cT,cU] [] w = some r :=
  ((s80J16eq w).trans h)
theorem s80J14rg {β : Type} (K : Exit → Act → World → Option β) (w : World) : evK Tryd.prog 80 none (nav [1, 1, 1, 1, 1, 1, 1, 1, 1, 1, 1, 0] (bodyOf Tryd.f80)) none _ ⟨[aA,aB,aC,aD,aE,aF,aG,aH,aI,aJ,aK,aL,aM,aN,aO,aP,aQ,aR,aS,aT,aU,aV,aW,aX,aY,aZ,bA,bB,bC,bD,bE,bF,bG,bH,bI,bJ,bK,bL,bM,bN,bO,bP,bQ,bR,bS,bT,bU,bV,bW,bX,bY,bZ,cA,cB,cC,cD,cE,cF,cG,cH,cI,cJ,cK,cL,cM,cN,cO,cP,cQ,cR,cS,cT,cU].toArray, []⟩ w K =
    (Qconv Tryd.prog 63 2 aJ).bind fun v628 =>
    K Exit.normal ⟨[aA,aB,aC,aD,aE,aF,aG,aH,aI,aJ,aK, v628, aM,aN,aO,aP,aQ,aR,aS,aT,aU,aV,aW,aX,aY,aZ,bA,bB,bC,bD,bE,bF,bG,bH,bI,bJ,bK,bL,bM,bN,bO,bP,bQ,bR,bS,bT,bU,bV,bW,bX,bY,bZ,cA,cB,cC,cD,cE,cF,cG,cH,cI,cJ,cK,cL,cM,cN,cO,aJ, v628, cR,cS,cT,cU].toArray, []⟩ w := by kernel_rfl
set_option maxRecDepth 100000 in
theorem s80J14eq (w : World) : s80J14 [aA,aB,aC,aD,aE,aF,aG,aH,aI,aJ,aK,aL,aM,aN,aO,aP,aQ,aR,aS,aT,aU,aV,aW,aX,aY,aZ,bA,bB,bC,bD,bE,bF,bG,bH,bI,bJ,bK,bL,bM,bN,bO,bP,bQ,bR,bS,bT,bU,bV,bW,bX,bY,bZ,cA,cB,cC,cD,cE,cF,cG,cH,cI,cJ,cK,cL,cM,cN,cO,cP,cQ,cR,cS,cT,cU] [] w = s80M14raw aA aB aC aD aE aF aG aH aI aJ aK aL aM aN aO aP aQ aR aS aT aU aV aW aX aY aZ bA bB bC bD bE bF bG bH bI bJ bK bL bM bN bO bP bQ bR bS bT bU bV bW bX bY bZ cA cB cC cD cE cF cG cH cI cJ cK cL cM cN cO cP cQ cR cS cT cU w := (show _ = seqK (fun a w => evK Tryd.prog 80 none (nav [1, 1, 1, 1, 1, 1, 1, 1, 1, 1, 1] (bodyOf Tryd.f80)) none _ a w (leaveK Tryd.prog Tryd.f80)) (leaveK Tryd.prog Tryd.f80) .normal ⟨[aA,aB,aC,aD,aE,aF,aG,aH,aI,aJ,aK,aL,aM,aN,aO,aP,aQ,aR,aS,aT,aU,aV,aW,aX,aY,aZ,bA,bB,bC,bD,bE,bF,bG,bH,bI,bJ,bK,bL,bM,bN,bO,bP,bQ,bR,bS,bT,bU,bV,bW,bX,bY,bZ,cA,cB,cC,cD,cE,cF,cG,cH,cI,cJ,cK,cL,cM,cN,cO,cP,cQ,cR,cS,cT,cU].toArray, []⟩ w from by kernel_rfl).trans ((seqK_n (fun a w => evK Tryd.prog 80 none (nav [1, 1, 1, 1, 1, 1, 1, 1, 1, 1, 1] (bodyOf Tryd.f80)) none _ a w (leaveK Tryd.prog Tryd.f80)) (leaveK Tryd.prog Tryd.f80) ⟨[aA,aB,aC,aD,aE,aF,aG,aH,aI,aJ,aK,aL,aM,aN,aO,aP,aQ,aR,aS,aT,aU,aV,aW,aX,aY,aZ,bA,bB,bC,bD,bE,bF,bG,bH,bI,bJ,bK,bL,bM,bN,bO,bP,bQ,bR,bS,bT,bU,bV,bW,bX,bY,bZ,cA,cB,cC,cD,cE,cF,cG,cH,cI,cJ,cK,cL,cM,cN,cO,cP,cQ,cR,cS,cT,cU].toArray, []⟩ w).trans ((show evK Tryd.prog 80 none (nav [1, 1, 1, 1, 1, 1, 1, 1, 1, 1, 1] (bodyOf Tryd.f80)) none _ ⟨[aA,aB,aC,aD,aE,aF,aG,aH,aI,aJ,aK,aL,aM,aN,aO,aP,aQ,aR,aS,aT,aU,aV,aW,aX,aY,aZ,bA,bB,bC,bD,bE,bF,bG,bH,bI,bJ,bK,bL,bM,bN,bO,bP,bQ,bR,bS,bT,bU,bV,bW,bX,bY,bZ,cA,cB,cC,cD,cE,cF,cG,cH,cI,cJ,cK,cL,cM,cN,cO,cP,cQ,cR,cS,cT,cU].toArray, []⟩ w (leaveK Tryd.prog Tryd.f80) = evK Tryd.prog 80 none (nav [1, 1, 1, 1, 1, 1, 1, 1, 1, 1, 1, 0] (bodyOf Tryd.f80)) none _ ⟨[aA,aB,aC,aD,aE,aF,aG,aH,aI,aJ,aK,aL,aM,aN,aO,aP,aQ,aR,aS,aT,aU,aV,aW,aX,aY,aZ,bA,bB,bC,bD,bE,bF,bG,bH,bI,bJ,bK,bL,bM,bN,bO,bP,bQ,bR,bS,bT,bU,bV,bW,bX,bY,bZ,cA,cB,cC,cD,cE,cF,cG,cH,cI,cJ,cK,cL,cM,cN,cO,cP,cQ,cR,cS,cT,cU].toArray, []⟩ w s80K18 from by kernel_rfl).trans ((s80J14rg s80K18 w).trans (by kernel_rfl))))
set_option maxRecDepth 100000 in
theorem s80J14of {w : World} {r : _} (h : s80M14 aI aJ w = some r) : s80J14 [aA,aB,aC,aD,aE,aF,aG,aH,aI,aJ,aK,aL,aM,aN,aO,aP,aQ,aR,aS,aT,aU,aV,aW,aX,aY,aZ,bA,bB,bC,bD,bE,bF,bG,bH,bI,bJ,bK,bL,bM,bN,bO,bP,bQ,bR,bS,bT,bU,bV,bW,bX,bY,bZ,cA,cB,cC,cD,cE,cF,cG,cH,cI,cJ,cK,cL,cM,cN,cO,cP,cQ,cR,cS,cT,cU] [] w = some r :=
  ((s80J14eq w).trans ((Ev.bind_mono fun (_ : Value) => (s80J16of)) h))
set_option maxRecDepth 100000 in
theorem s80J15eq (w : World) : s80J15 [aA,aB,aC,aD,aE,aF,aG,aH,aI,aJ,aK,aL,aM,aN,aO,aP,aQ,aR,aS,aT,aU,aV,aW,aX,aY,aZ,bA,bB,bC,bD,bE,bF,bG,bH,bI,bJ,bK,bL,bM,bN,bO,bP,bQ,bR,bS,bT,bU,bV,bW,bX,bY,bZ,cA,cB,cC,cD,cE,cF,cG,cH,cI,cJ,cK,cL,cM,cN,cO,cP,cQ,cR,cS,cT,cU] [] w = s80M15raw aA aB aC aD aE aF aG aH aI aJ aK aL aM aN aO aP aQ aR aS aT aU aV aW aX aY aZ bA bB bC bD bE bF bG bH bI bJ bK bL bM bN bO bP bQ bR bS bT bU bV bW bX bY bZ cA cB cC cD cE cF cG cH cI cJ cK cL cM cN cO cP cQ cR cS cT cU w := (show _ = evK Tryd.prog 80 none (nav [1, 1, 1, 1, 1, 1, 1, 1, 1, 1, 0, 1] (bodyOf Tryd.f80)) none _ ⟨[aA,aB,aC,aD,aE,aF,aG,aH,aI,aJ,aK,aL,aM,aN,aO,aP,aQ,aR,aS,aT,aU,aV,aW,aX,aY,aZ,bA,bB,bC,bD,bE,bF,bG,bH,bI,bJ,bK,bL,bM,bN,bO,bP,bQ,bR,bS,bT,bU,bV,bW,bX,bY,bZ,cA,cB,cC,cD,cE,cF,cG,cH,cI,cJ,cK,cL,cM,cN,cO,cP,cQ,cR,cS,cT,cU].toArray, []⟩ w s80K16 from by kernel_rfl).trans (by kernel_rfl)
set_option maxRecDepth 100000 in
theorem s80J15of {w : World} {r : _} (h : s80M15 aI aJ aK cK w = some r) : s80J15 [aA,aB,aC,aD,aE,aF,aG,aH,aI,aJ,aK,aL,aM,aN,aO,aP,aQ,aR,aS,aT,aU,aV,aW,aX,aY,aZ,bA,bB,bC,bD,bE,bF,bG,bH,bI,bJ,bK,bL,bM,bN,bO,bP,bQ,bR,bS,bT,bU,bV,bW,bX,bY,bZ,cA,cB,cC,cD,cE,cF,cG,cH,cI,cJ,cK,cL,cM,cN,cO,cP,cQ,cR,cS,cT,cU] [] w = some r :=
  ((s80J15eq w).trans ((condK_mono id (s80J14of)) h))
theorem s80J12rg {β : Type} (K : Exit → Act → World → Option β) (w : World) : evK Tryd.prog 80 none (nav [1, 1, 1, 1, 1, 1, 1, 1, 1, 1, 0, 0] (bodyOf Tryd.f80)) none _ ⟨[aA,aB,aC,aD,aE,aF,aG,aH,aI,aJ,aK,aL,aM,aN,aO,aP,aQ,aR,aS,aT,aU,aV,aW,aX,aY,aZ,bA,bB,bC,bD,bE,bF,bG,bH,bI,bJ,bK,bL,bM,bN,bO,bP,bQ,bR,bS,bT,bU,bV,bW,bX,bY,bZ,cA,cB,cC,cD,cE,cF,cG,cH,cI,cJ,cK,cL,cM,cN,cO,cP,cQ,cR,cS,cT,cU].toArray, []⟩ w K =
    (guardQ aI true (Qbin Tryd.prog .gtr 63 (gv (isB aI true) aJ) (gv (isB aI true) aK))).bind fun v622 =>
    (Qpick aI v622 (Value.bool false)).bind fun v623 =>
    K Exit.normal ⟨[aA,aB,aC,aD,aE,aF,aG,aH,aI,aJ,aK,aL,aM,aN,aO,aP,aQ,aR,aS,aT,aU,aV,aW,aX,aY,aZ,bA,bB,bC,bD,bE,bF,bG,bH,bI,bJ,bK,bL,bM,bN,bO,bP,bQ,bR,bS,bT,bU,bV,bW,bX,bY,bZ,cA,cB,cC,cD,cE,aI,aI, (gv (isB aI true) aJ), (gv (isB aI true) aK), v622, v623, cL,cM,cN,cO,cP,cQ,cR,cS,cT,cU].toArray, []⟩ w := by kernel_rfl
set_option maxRecDepth 100000 in
theorem s80J12eq (w : World) : s80J12 [aA,aB,aC,aD,aE,aF,aG,aH,aI,aJ,aK,aL,aM,aN,aO,aP,aQ,aR,aS,aT,aU,aV,aW,aX,aY,aZ,bA,bB,bC,bD,bE,bF,bG,bH,bI,bJ,bK,bL,bM,bN,bO,bP,bQ,bR,bS,bT,bU,bV,bW,bX,bY,bZ,cA,cB,cC,cD,cE,cF,cG,cH,cI,cJ,cK,cL,cM,cN,cO,cP,cQ,cR,cS,cT,cU] [] w = s80M12raw aA aB aC aD aE aF aG aH aI aJ aK aL aM aN aO aP aQ aR aS aT aU aV aW aX aY aZ bA bB bC bD bE bF bG bH bI bJ bK bL bM bN bO bP bQ bR bS bT bU bV bW bX bY bZ cA cB cC cD cE cF cG cH cI cJ cK cL cM cN cO cP cQ cR cS cT cU w := (show _ = seqK (fun a w => evK Tryd.prog 80 none (nav [1, 1, 1, 1, 1, 1, 1, 1, 1, 1] (bodyOf Tryd.f80)) none _ a w (leaveK Tryd.prog Tryd.f80)) (leaveK Tryd.prog Tryd.f80) .normal ⟨[aA,aB,aC,aD,aE,aF,aG,aH,aI,aJ,aK,aL,aM,aN,aO,aP,aQ,aR,aS,aT,aU,aV,aW,aX,aY,aZ,bA,bB,bC,bD,bE,bF,bG,bH,bI,bJ,bK,bL,bM,bN,bO,bP,bQ,bR,bS,bT,bU,bV,bW,bX,bY,bZ,cA,cB,cC,cD,cE,cF,cG,cH,cI,cJ,cK,cL,cM,cN,cO,cP,cQ,cR,cS,cT,cU].toArray, []⟩ w from by kernel_rfl).trans ((seqK_n (fun a w => evK Tryd.prog 80 none (nav [1, 1, 1, 1, 1, 1, 1, 1, 1, 1] (bodyOf Tryd.f80)) none _ a w (leaveK Tryd.prog Tryd.f80)) (leaveK Tryd.prog Tryd.f80) ⟨[aA,aB,aC,aD,aE,aF,aG,aH,aI,aJ,aK,aL,aM,aN,aO,aP,aQ,aR,aS,aT,aU,aV,aW,aX,aY,aZ,bA,bB,bC,bD,bE,bF,bG,bH,bI,bJ,bK,bL,bM,bN,bO,bP,bQ,bR,bS,bT,bU,bV,bW,bX,bY,bZ,cA,cB,cC,cD,cE,cF,cG,cH,cI,cJ,cK,cL,cM,cN,cO,cP,cQ,cR,cS,cT,cU].toArray, []⟩ w).trans ((show evK Tryd.prog 80 none (nav [1, 1, 1, 1, 1, 1, 1, 1, 1, 1] (bodyOf Tryd.f80)) none _ ⟨[aA,aB,aC,aD,aE,aF,aG,aH,aI,aJ,aK,aL,aM,aN,aO,aP,aQ,aR,aS,aT,aU,aV,aW,aX,aY,aZ,bA,bB,bC,bD,bE,bF,bG,bH,bI,bJ,bK,bL,bM,bN,bO,bP,bQ,bR,bS,bT,bU,bV,bW,bX,bY,bZ,cA,cB,cC,cD,cE,cF,cG,cH,cI,cJ,cK,cL,cM,cN,cO,cP,cQ,cR,cS,cT,cU].toArray, []⟩ w (leaveK Tryd.prog Tryd.f80) = evK Tryd.prog 80 none (nav [1, 1, 1, 1, 1, 1, 1, 1, 1, 1, 0, 0] (bodyOf Tryd.f80)) none _ ⟨[aA,aB,aC,aD,aE,aF,aG,aH,aI,aJ,aK,aL,aM,aN,aO,aP,aQ,aR,aS,aT,aU,aV,aW,aX,aY,aZ,bA,bB,bC,bD,bE,bF,bG,bH,bI,bJ,bK,bL,bM,bN,bO,bP,bQ,bR,bS,bT,bU,bV,bW,bX,bY,bZ,cA,cB,cC,cD,cE,cF,cG,cH,cI,cJ,cK,cL,cM,cN,cO,cP,cQ,cR,cS,cT,cU].toArray, []⟩ w s80K17 from by kernel_rfl).trans ((s80J12rg s80K17 w).trans (by kernel_rfl))))
set_option maxRecDepth 100000 in
theorem s80J12of {w : World} {r : _} (h : s80M12 aI aJ aK w = some r) : s80J12 [aA,aB,aC,aD,aE,aF,aG,aH,aI,aJ,aK,aL,aM,aN,aO,aP,aQ,aR,aS,aT,aU,aV,aW,aX,aY,aZ,bA,bB,bC,bD,bE,bF,bG,bH,bI,bJ,bK,bL,bM,bN,bO,bP,bQ,bR,bS,bT,bU,bV,bW,bX,bY,bZ,cA,cB,cC,cD,cE,cF,cG,cH,cI,cJ,cK,cL,cM,cN,cO,cP,cQ,cR,cS,cT,cU] [] w = some r :=
  ((s80J12eq w).trans ((Ev.bind_mono fun (_ : Value) => (Ev.bind_mono fun (_ : Value) => (s80J15of))) h))
set_option maxRecDepth 100000 in
theorem s80J13eq (w : World) : s80J13 [aA,aB,aC,aD,aE,aF,aG,aH,aI,aJ,aK,aL,aM,aN,aO,aP,aQ,aR,aS,aT,aU,aV,aW,aX,aY,aZ,bA,bB,bC,bD,bE,bF,bG,bH,bI,bJ,bK,bL,bM,bN,bO,bP,bQ,bR,bS,bT,bU,bV,bW,bX,bY,bZ,cA,cB,cC,cD,cE,cF,cG,cH,cI,cJ,cK,cL,cM,cN,cO,cP,cQ,cR,cS,cT,cU] [] w = s80M13raw aA aB aC aD aE aF aG aH aI aJ aK aL aM aN aO aP aQ aR aS aT aU aV aW aX aY aZ bA bB bC bD bE bF bG bH bI bJ bK bL bM bN bO bP bQ bR bS bT bU bV bW bX bY bZ cA cB cC cD cE cF cG cH cI cJ cK cL cM cN cO cP cQ cR cS cT cU w := (show _ = evK Tryd.prog 80 none (nav [1, 1, 1, 1, 1, 1, 1, 1, 1, 0, 1] (bodyOf Tryd.f80)) none _ ⟨[aA,aB,aC,aD,aE,aF,aG,aH,aI,aJ,aK,aL,aM,aN,aO,aP,aQ,aR,aS,aT,aU,aV,aW,aX,aY,aZ,bA,bB,bC,bD,bE,bF,bG,bH,bI,bJ,bK,bL,bM,bN,bO,bP,bQ,bR,bS,bT,bU,bV,bW,bX,bY,bZ,cA,cB,cC,cD,cE,cF,cG,cH,cI,cJ,cK,cL,cM,cN,cO,cP,cQ,cR,cS,cT,cU].toArray, []⟩ w s80K14 from by kernel_rfl).trans (by kernel_rfl)
set_option maxRecDepth 100000 in
theorem s80J13of {w : World} {r : _} (h : s80M13 aI aJ aK cA w = some r) : s80J13 [aA,aB,aC,aD,aE,aF,aG,aH,aI,aJ,aK,aL,aM,aN,aO,aP,aQ,aR,aS,aT,aU,aV,aW,aX,aY,aZ,bA,bB,bC,bD,bE,bF,bG,bH,bI,bJ,bK,bL,bM,bN,bO,bP,bQ,bR,bS,bT,bU,bV,bW,bX,bY,bZ,cA,cB,cC,cD,cE,cF,cG,cH,cI,cJ,cK,cL,cM,cN,cO,cP,cQ,cR,cS,cT,cU] [] w = some r :=
  ((s80J13eq w).trans ((condK_mono id (s80J12of)) h))
theorem s80J11rg {β : Type} (K : Exit → Act → World → Option β) (w : World) : evK Tryd.prog 80 none (nav [1, 1, 1, 1, 1, 1, 1, 1, 1, 0, 0] (bodyOf Tryd.f80)) none _ ⟨[aA,aB,aC,aD,aE,aF,aG,aH,aI,aJ,aK,aL,aM,aN,aO,aP,aQ,aR,aS,aT,aU,aV,aW,aX,aY,aZ,bA,bB,bC,bD,bE,bF,bG,bH,bI,bJ,bK,bL,bM,bN,bO,bP,bQ,bR,bS,bT,bU,bV,bW,bX,bY,bZ,cA,cB,cC,cD,cE,cF,cG,cH,cI,cJ,cK,cL,cM,cN,cO,cP,cQ,cR,cS,cT,cU].toArray, []⟩ w K =
    (Qun .not aI).bind fun v617 =>
    (guardQ v617 true (Qbin Tryd.prog .geq 63 (gv (isB v617 true) aJ) (gv (isB v617 true) aK))).bind fun v618 =>
    (Qpick v617 v618 (Value.bool false)).bind fun v619 =>
    K Exit.normal ⟨[aA,aB,aC,aD,aE,aF,aG,aH,aI,aJ,aK,aL,aM,aN,aO,aP,aQ,aR,aS,aT,aU,aV,aW,aX,aY,aZ,bA,bB,bC,bD,bE,bF,bG,bH,bI,bJ,bK,bL,bM,bN,bO,bP,bQ,bR,bS,bT,aI, v617, v617, (gv (isB v617 true) aJ), (gv (isB v617 true) aK), v618, v619, cB,cC,cD,cE,cF,cG,cH,cI,cJ,cK,cL,cM,cN,cO,cP,cQ,cR,cS,cT,cU].toArray, []⟩ w := by kernel_rfl
set_option maxRecDepth 100000 in
theorem s80J11eq (w : World) : s80J11 [aA,aB,aC,aD,aE,aF,aG,aH,aI,aJ,aK,aL,aM,aN,aO,aP,aQ,aR,aS,aT,aU,aV,aW,aX,aY,aZ,bA,bB,bC,bD,bE,bF,bG,bH,bI,bJ,bK,bL,bM,bN,bO,bP,bQ,bR,bS,bT,bU,bV,bW,bX,bY,bZ,cA,cB,cC,cD,cE,cF,cG,cH,cI,cJ,cK,cL,cM,cN,cO,cP,cQ,cR,cS,cT,cU] [] w = s80M11raw aA aB aC aD aE aF aG aH aI aJ aK aL aM aN aO aP aQ aR aS aT aU aV aW aX aY aZ bA bB bC bD bE bF bG bH bI bJ bK bL bM bN bO bP bQ bR bS bT bU bV bW bX bY bZ cA cB cC cD cE cF cG cH cI cJ cK cL cM cN cO cP cQ cR cS cT cU w := (show _ = seqK (fun a w => evK Tryd.prog 80 none (nav [1, 1, 1, 1, 1, 1, 1, 1, 1] (bodyOf Tryd.f80)) none _ a w (leaveK Tryd.prog Tryd.f80)) (leaveK Tryd.prog Tryd.f80) .normal ⟨[aA,aB,aC,aD,aE,aF,aG,aH,aI,aJ,aK,aL,aM,aN,aO,aP,aQ,aR,aS,aT,aU,aV,aW,aX,aY,aZ,bA,bB,bC,bD,bE,bF,bG,bH,bI,bJ,bK,bL,bM,bN,bO,bP,bQ,bR,bS,bT,bU,bV,bW,bX,bY,bZ,cA,cB,cC,cD,cE,cF,cG,cH,cI,cJ,cK,cL,cM,cN,cO,cP,cQ,cR,cS,cT,cU].toArray, []⟩ w from by kernel_rfl).trans ((seqK_n (fun a w => evK Tryd.prog 80 none (nav [1, 1, 1, 1, 1, 1, 1, 1, 1] (bodyOf Tryd.f80)) none _ a w (leaveK Tryd.prog Tryd.f80)) (leaveK Tryd.prog Tryd.f80) ⟨[aA,aB,aC,aD,aE,aF,aG,aH,aI,aJ,aK,aL,aM,aN,aO,aP,aQ,aR,aS,aT,aU,aV,aW,aX,aY,aZ,bA,bB,bC,bD,bE,bF,bG,bH,bI,bJ,bK,bL,bM,bN,bO,bP,bQ,bR,bS,bT,bU,bV,bW,bX,bY,bZ,cA,cB,cC,cD,cE,cF,cG,cH,cI,cJ,cK,cL,cM,cN,cO,cP,cQ,cR,cS,cT,cU].toArray, []⟩ w).trans ((show evK Tryd.prog 80 none (nav [1, 1, 1, 1, 1, 1, 1, 1, 1] (bodyOf Tryd.f80)) none _ ⟨[aA,aB,aC,aD,aE,aF,aG,aH,aI,aJ,aK,aL,aM,aN,aO,aP,aQ,aR,aS,aT,aU,aV,aW,aX,aY,aZ,bA,bB,bC,bD,bE,bF,bG,bH,bI,bJ,bK,bL,bM,bN,bO,bP,bQ,bR,bS,bT,bU,bV,bW,bX,bY,bZ,cA,cB,cC,cD,cE,cF,cG,cH,cI,cJ,cK,cL,cM,cN,cO,cP,cQ,cR,cS,cT,cU].toArray, []⟩ w (leaveK Tryd.prog Tryd.f80) = evK Tryd.prog 80 none (nav [1, 1, 1, 1, 1, 1, 1, 1, 1, 0, 0] (bodyOf Tryd.f80)) none _ ⟨[aA,aB,aC,aD,aE,aF,aG,aH,aI,aJ,aK,aL,aM,aN,aO,aP,aQ,aR,aS,aT,aU,aV,aW,aX,aY,aZ,bA,bB,bC,bD,bE,bF,bG,bH,bI,bJ,bK,bL,bM,bN,bO,bP,bQ,bR,bS,bT,bU,bV,bW,bX,bY,bZ,cA,cB,cC,cD,cE,cF,cG,cH,cI,cJ,cK,cL,cM,cN,cO,cP,cQ,cR,cS,cT,cU].toArray, []⟩ w s80K15 from by kernel_rfl).trans ((s80J11rg s80K15 w).trans (by kernel_rfl))))
set_option maxRecDepth 100000 in
theorem s80J11of {w : World} {r : _} (h : s80M11 aI aJ aK w = some r) : s80J11 [aA,aB,aC,aD,aE,aF,aG,aH,aI,aJ,aK,aL,aM,aN,aO,aP,aQ,aR,aS,aT,aU,aV,aW,aX,aY,aZ,bA,bB,bC,bD,bE,bF,bG,bH,bI,bJ,bK,bL,bM,bN,bO,bP,bQ,bR,bS,bT,bU,bV,bW,bX,bY,bZ,cA,cB,cC,cD,cE,cF,cG,cH,cI,cJ,cK,cL,cM,cN,cO,cP,cQ,cR,cS,cT,cU] [] w = some r :=
  ((s80J11eq w).trans ((Ev.bind_mono fun (_ : Value) => (Ev.bind_mono fun (_ : Value) => (Ev.bind_mono fun (_ : Value) => (s80J13of)))) h))
theorem s80J9rg {β : Type} (K : Exit → Act → World → Option β) (w : World) : evK Tryd.prog 80 none (nav [1, 1, 1, 1, 1, 1, 1, 1, 0] (bodyOf Tryd.f80)) none _ ⟨[aA,aB,aC,aD,aE,aF,aG,aH,aI,aJ,aK,aL,aM,aN,aO,aP,aQ,aR,aS,aT,aU,aV,aW,aX,aY,aZ,bA,bB,bC,bD,bE,bF,bG,bH,bI,bJ,bK,bL,bM,bN,bO,bP,bQ,bR,bS,bT,bU,bV,bW,bX,bY,bZ,cA,cB,cC,cD,cE,cF,cG,cH,cI,cJ,cK,cL,cM,cN,cO,cP,cQ,cR,cS,cT,cU].toArray, []⟩ w K =
    (Qbin Tryd.prog .sub 3 aC (Value.int .i64 1)).bind fun v611 =>
    (Qconv Tryd.prog 3 77 v611).bind fun v612 =>
    (Qbin Tryd.prog .shl 63 (Value.int .u64 1) v612).bind fun v613 =>
    K Exit.normal ⟨[aA,aB,aC,aD,aE,aF,aG,aH,aI,aJ, v613, aL,aM,aN,aO,aP,aQ,aR,aS,aT,aU,aV,aW,aX,aY,aZ,bA,bB,bC,bD,bE,bF,bG,bH,bI,bJ,bK,bL,bM,bN,bO,bP,aC, v611, v612, v613, bU,bV,bW,bX,bY,bZ,cA,cB,cC,cD,cE,cF,cG,cH,cI,cJ,cK,cL,cM,cN,cO,cP,cQ,cR,cS,cT,cU].toArray, []⟩ w := by kernel_rfl
set_option maxRecDepth 100000 in
theorem s80J9eq (w : World) : s80J9 [aA,aB,aC,aD,aE,aF,aG,aH,aI,aJ,aK,aL,aM,aN,aO,aP,aQ,aR,aS,aT,aU,aV,aW,aX,aY,aZ,bA,bB,bC,bD,bE,bF,bG,bH,bI,bJ,bK,bL,bM,bN,bO,bP,bQ,bR,bS,bT,bU,bV,bW,bX,bY,bZ,cA,cB,cC,cD,cE,cF,cG,cH,cI,cJ,cK,cL,cM,cN,cO,cP,cQ,cR,cS,cT,cU] [] w = s80M9raw aA aB aC aD aE aF aG aH aI aJ aK aL aM aN aO aP aQ aR aS aT aU aV aW aX aY aZ bA bB bC bD bE bF bG bH bI bJ bK bL bM bN bO bP bQ bR bS bT bU bV bW bX bY bZ cA cB cC cD cE cF cG cH cI cJ cK cL cM cN cO cP cQ cR cS cT cU w := (show _ = seqK (fun a w => evK Tryd.prog 80 none (nav [1, 1, 1, 1, 1, 1, 1, 1] (bodyOf Tryd.f80)) none _ a w (leaveK Tryd.prog Tryd.f80)) (leaveK Tryd.prog Tryd.f80) .normal ⟨[aA,aB,aC,aD,aE,aF,aG,aH,aI,aJ,aK,aL,aM,aN,aO,aP,aQ,aR,aS,aT,aU,aV,aW,aX,aY,aZ,bA,bB,bC,bD,bE,bF,bG,bH,bI,bJ,bK,bL,bM,bN,bO,bP,bQ,bR,bS,bT,bU,bV,bW,bX,bY,bZ,cA,cB,cC,cD,cE,cF,cG,cH,cI,cJ,cK,cL,cM,cN,cO,cP,cQ,cR,cS,cT,cU].toArray, []⟩ w from by kernel_rfl).trans ((seqK_n (fun a w => evK Tryd.prog 80 none (nav [1, 1, 1, 1, 1, 1, 1, 1] (bodyOf Tryd.f80)) none _ a w (leaveK Tryd.prog Tryd.f80)) (leaveK Tryd.prog Tryd.f80) ⟨[aA,aB,aC,aD,aE,aF,aG,aH,aI,aJ,aK,aL,aM,aN,aO,aP,aQ,aR,aS,aT,aU,aV,aW,aX,aY,aZ,bA,bB,bC,bD,bE,bF,bG,bH,bI,bJ,bK,bL,bM,bN,bO,bP,bQ,bR,bS,bT,bU,bV,bW,bX,bY,bZ,cA,cB,cC,cD,cE,cF,cG,cH,cI,cJ,cK,cL,cM,cN,cO,cP,cQ,cR,cS,cT,cU].toArray, []⟩ w).trans ((show evK Tryd.prog 80 none (nav [1, 1, 1, 1, 1, 1, 1, 1] (bodyOf Tryd.f80)) none _ ⟨[aA,aB,aC,aD,aE,aF,aG,aH,aI,aJ,aK,aL,aM,aN,aO,aP,aQ,aR,aS,aT,aU,aV,aW,aX,aY,aZ,bA,bB,bC,bD,bE,bF,bG,bH,bI,bJ,bK,bL,bM,bN,bO,bP,bQ,bR,bS,bT,bU,bV,bW,bX,bY,bZ,cA,cB,cC,cD,cE,cF,cG,cH,cI,cJ,cK,cL,cM,cN,cO,cP,cQ,cR,cS,cT,cU].toArray, []⟩ w (leaveK Tryd.prog Tryd.f80) = evK Tryd.prog 80 none (nav [1, 1, 1, 1, 1, 1, 1, 1, 0] (bodyOf Tryd.f80)) none _ ⟨[aA,aB,aC,aD,aE,aF,aG,aH,aI,aJ,aK,aL,aM,aN,aO,aP,aQ,aR,aS,aT,aU,aV,aW,aX,aY,aZ,bA,bB,bC,bD,bE,bF,bG,bH,bI,bJ,bK,bL,bM,bN,bO,bP,bQ,bR,bS,bT,bU,bV,bW,bX,bY,bZ,cA,cB,cC,cD,cE,cF,cG,cH,cI,cJ,cK,cL,cM,cN,cO,cP,cQ,cR,cS,cT,cU].toArray, []⟩ w s80K13 from by kernel_rfl).trans ((s80J9rg s80K13 w).trans (by kernel_rfl))))
set_option maxRecDepth 100000 in
theorem s80J9of {w : World} {r : _} (h : s80M9 aC aI aJ w = some r) : s80J9 [aA,aB,aC,aD,aE,aF,aG,aH,aI,aJ,aK,aL,aM,aN,aO,aP,aQ,aR,aS,aT,aU,aV,aW,aX,aY,aZ,bA,bB,bC,bD,bE,bF,bG,bH,bI,bJ,bK,bL,bM,bN,bO,bP,bQ,bR,bS,bT,bU,bV,bW,bX,bY,bZ,cA,cB,cC,cD,cE,cF,cG,cH,cI,cJ,cK,cL,cM,cN,cO,cP,cQ,cR,cS,cT,cU] [] w = some r :=
  ((s80J9eq w).trans ((Ev.bind_mono fun (_ : Value) => (Ev.bind_mono fun (_ : Value) => (Ev.bind_mono fun (_ : Value) => (s80J11of)))) h))
theorem s80J10rg {β : Type} (K : Exit → Act → World → Option β) (w : World) : evK Tryd.prog 80 none (nav [1, 1, 1, 1, 1, 1, 1, 0, 1] (bodyOf Tryd.f80)) none _ ⟨[aA,aB,aC,aD,aE,aF,aG,aH,aI,aJ,aK,aL,aM,aN,aO,aP,aQ,aR,aS,aT,aU,aV,aW,aX,aY,aZ,bA,bB,bC,bD,bE,bF,bG,bH,bI,bJ,bK,bL,bM,bN,bO,bP,bQ,bR,bS,bT,bU,bV,bW,bX,bY,bZ,cA,cB,cC,cD,cE,cF,cG,cH,cI,cJ,cK,cL,cM,cN,cO,cP,cQ,cR,cS,cT,cU].toArray, []⟩ w K =
    condK bP (
      K Exit.normal ⟨[aA,aB, (Value.int .i64 64), aD,aE,aF,aG,aH,aI,aJ,aK,aL,aM,aN,aO,aP,aQ,aR,aS,aT,aU,aV,aW,aX,aY,aZ,bA,bB,bC,bD,bE,bF,bG,bH,bI,bJ,bK,bL,bM,bN,bO,bP,bQ,bR,bS,bT,bU,bV,bW,bX,bY,bZ,cA,cB,cC,cD,cE,cF,cG,cH,cI,cJ,cK,cL,cM,cN,cO,cP,cQ,cR,cS,cT,cU].toArray, []⟩ w
    ) (
      K Exit.normal ⟨[aA,aB,aC,aD,aE,aF,aG,aH,aI,aJ,aK,aL,aM,aN,aO,aP,aQ,aR,aS,aT,aU,aV,aW,aX,aY,aZ,bA,bB,bC,bD,bE,bF,bG,bH,bI,bJ,bK,bL,bM,bN,bO,bP,bQ,bR,bS,bT,bU,bV,bW,bX,bY,bZ,cA,cB,cC,cD,cE,cF,cG,cH,cI,cJ,cK,cL,cM,cN,cO,cP,cQ,cR,cS,cT,cU].toArray, []⟩ w
    ) := by kernel_rfl
set_option maxRecDepth 100000 in
theorem s80J10eq (w : World) : s80J10 [aA,aB,aC,aD,aE,aF,aG,aH,aI,aJ,aK,aL,aM,aN,aO,aP,aQ,aR,aS,aT,aU,aV,aW,aX,aY,aZ,bA,bB,bC,bD,bE,bF,bG,bH,bI,bJ,bK,bL,bM,bN,bO,bP,bQ,bR,bS,bT,bU,bV,bW,bX,bY,bZ,cA,cB,cC,cD,cE,cF,cG,cH,cI,cJ,cK,cL,cM,cN,cO,cP,cQ,cR,cS,cT,cU] [] w = s80M10raw aA aB aC aD aE aF aG aH aI aJ aK aL aM aN aO aP aQ aR aS aT aU aV aW aX aY aZ bA bB bC bD bE bF bG bH bI bJ bK bL bM bN bO bP bQ bR bS bT bU bV bW bX bY bZ cA cB cC cD cE cF cG cH cI cJ cK cL cM cN cO cP cQ cR cS cT cU w := (show _ = seqK (fun a w => evK Tryd.prog 80 none (nav [1, 1, 1, 1, 1, 1, 1, 0, 1] (bodyOf Tryd.f80)) none _ a w s80K11) s80K11 .normal ⟨[aA,aB,aC,aD,aE,aF,aG,aH,aI,aJ,aK,aL,aM,aN,aO,aP,aQ,aR,aS,aT,aU,aV,aW,aX,aY,aZ,bA,bB,bC,bD,bE,bF,bG,bH,bI,bJ,bK,bL,bM,bN,bO,bP,bQ,bR,bS,bT,bU,bV,bW,bX,bY,bZ,cA,cB,cC,cD,cE,cF,cG,cH,cI,cJ,cK,cL,cM,cN,cO,cP,cQ,cR,cS,cT,cU].toArray, []⟩ w from by kernel_rfl).trans ((seqK_n _ _ _ _).trans ((s80J10rg s80K11 w).trans (by kernel_rfl)))
set_option maxRecDepth 100000 in
theorem s80J10of {w : World} {r : _} (h : s80M10 aC aI aJ bP w = some r) : s80J10 [aA,aB,aC,aD,aE,aF,aG,aH,aI,aJ,aK,aL,aM,aN,aO,aP,aQ,aR,aS,aT,aU,aV,aW,aX,aY,aZ,bA,bB,bC,bD,bE,bF,bG,bH,bI,bJ,bK,bL,bM,bN,bO,bP,bQ,bR,bS,bT,bU,bV,bW,bX,bY,bZ,cA,cB,cC,cD,cE,cF,cG,cH,cI,cJ,cK,cL,cM,cN,cO,cP,cQ,cR,cS,cT,cU] [] w = some r :=
  ((s80J10eq w).trans ((condK_mono (s80J9of) (s80J9of)) h))
theorem s80J7rg {β : Type} (K : Exit → Act → World → Option β) (w : World) : evK Tryd.prog 80 none (nav [1, 1, 1, 1, 1, 1, 1, 0, 0] (bodyOf Tryd.f80)) none _ ⟨[aA,aB,aC,aD,aE,aF,aG,aH,aI,aJ,aK,aL,aM,aN,aO,aP,aQ,aR,aS,aT,aU,aV,aW,aX,aY,aZ,bA,bB,bC,bD,bE,bF,bG,bH,bI,bJ,bK,bL,bM,bN,bO,bP,bQ,bR,bS,bT,bU,bV,bW,bX,bY,bZ,cA,cB,cC,cD,cE,cF,cG,cH,cI,cJ,cK,cL,cM,cN,cO,cP,cQ,cR,cS,cT,cU].toArray, []⟩ w K =
    (Qbin Tryd.prog .eql 3 aC (Value.int .i64 0)).bind fun v607 =>
    K Exit.normal ⟨[aA,aB,aC,aD,aE,aF,aG,aH,aI,aJ,aK,aL,aM,aN,aO,aP,aQ,aR,aS,aT,aU,aV,aW,aX,aY,aZ,bA,bB,bC,bD,bE,bF,bG,bH,bI,bJ,bK,bL,bM,bN,aC, v607, bQ,bR,bS,bT,bU,bV,bW,bX,bY,bZ,cA,cB,cC,cD,cE,cF,cG,cH,cI,cJ,cK,cL,cM,cN,cO,cP,cQ,cR,cS,cT,cU].toArray, []⟩ w := by kernel_rfl
set_option maxRecDepth 100000 in
theorem s80J7eq (w : World) : s80J7 [aA,aB,aC,aD,aE,aF,aG,aH,aI,aJ,aK,aL,aM,aN,aO,aP,aQ,aR,aS,aT,aU,aV,aW,aX,aY,aZ,bA,bB,bC,bD,bE,bF,bG,bH,bI,bJ,bK,bL,bM,bN,bO,bP,bQ,bR,bS,bT,bU,bV,bW,bX,bY,bZ,cA,cB,cC,cD,cE,cF,cG,cH,cI,cJ,cK,cL,cM,cN,cO,cP,cQ,cR,cS,cT,cU] [] w = s80M7raw aA aB aC aD aE aF aG aH aI aJ aK aL aM aN aO aP aQ aR aS aT aU aV aW aX aY aZ bA bB bC bD bE bF bG bH bI bJ bK bL bM bN bO bP bQ bR bS bT bU bV bW bX bY bZ cA cB cC cD cE cF cG cH cI cJ cK cL cM cN cO cP cQ cR cS cT cU w := (show _ = seqK (fun a w => evK Tryd.prog 80 none (nav [1, 1, 1, 1, 1, 1, 1] (bodyOf Tryd.f80)) none _ a w (leaveK Tryd.prog Tryd.f80)) (leaveK Tryd.prog Tryd.f80) .normal ⟨[aA,aB,aC,aD,aE,aF,aG,aH,aI,aJ,aK,aL,aM,aN,aO,aP,aQ,aR,aS,aT,aU,aV,aW,aX,aY,aZ,bA,bB,bC,bD,bE,bF,bG,bH,bI,bJ,bK,bL,bM,bN,bO,bP,bQ,bR,bS,bT,bU,bV,bW,bX,bY,bZ,cA,cB,cC,cD,cE,cF,cG,cH,cI,cJ,cK,cL,cM,cN,cO,cP,cQ,cR,cS,cT,cU].toArray, []⟩ w from by kernel_rfl).trans ((seqK_n (fun a w => evK Tryd.prog 80 none (nav [1, 1, 1, 1, 1, 1, 1] (bodyOf Tryd.f80)) none _ a w (leaveK Tryd.prog Tryd.f80)) (leaveK Tryd.prog Tryd.f80) ⟨[aA,aB,aC,aD,aE,aF,aG,aH,aI,aJ,aK,aL,aM,aN,aO,aP,aQ,aR,aS,aT,aU,aV,aW,aX,aY,aZ,bA,bB,bC,bD,bE,bF,bG,bH,bI,bJ,bK,bL,bM,bN,bO,bP,bQ,bR,bS,bT,bU,bV,bW,bX,bY,bZ,cA,cB,cC,cD,cE,cF,cG,cH,cI,cJ,cK,cL,cM,cN,cO,cP,cQ,cR,cS,cT,cU].toArray, []⟩ w).trans ((show evK Tryd.prog 80 none (nav [1, 1, 1, 1, 1, 1, 1] (bodyOf Tryd.f80)) none _ ⟨[aA,aB,aC,aD,aE,aF,aG,aH,aI,aJ,aK,aL,aM,aN,aO,aP,aQ,aR,aS,aT,aU,aV,aW,aX,aY,aZ,bA,bB,bC,bD,bE,bF,bG,bH,bI,bJ,bK,bL,bM,bN,bO,bP,bQ,bR,bS,bT,bU,bV,bW,bX,bY,bZ,cA,cB,cC,cD,cE,cF,cG,cH,cI,cJ,cK,cL,cM,cN,cO,cP,cQ,cR,cS,cT,cU].toArray, []⟩ w (leaveK Tryd.prog Tryd.f80) = evK Tryd.prog 80 none (nav [1, 1, 1, 1, 1, 1, 1, 0, 0] (bodyOf Tryd.f80)) none _ ⟨[aA,aB,aC,aD,aE,aF,aG,aH,aI,aJ,aK,aL,aM,aN,aO,aP,aQ,aR,aS,aT,aU,aV,aW,aX,aY,aZ,bA,bB,bC,bD,bE,bF,bG,bH,bI,bJ,bK,bL,bM,bN,bO,bP,bQ,bR,bS,bT,bU,bV,bW,bX,bY,bZ,cA,cB,cC,cD,cE,cF,cG,cH,cI,cJ,cK,cL,cM,cN,cO,cP,cQ,cR,cS,cT,cU].toArray, []⟩ w s80K12 from by kernel_rfl).trans ((s80J7rg s80K12 w).trans (by kernel_rfl))))
set_option maxRecDepth 100000 in
theorem s80J7of {w : World} {r : _} (h : s80M7 aC aI aJ w = some r) : s80J7 [aA,aB,aC,aD,aE,aF,aG,aH,aI,aJ,aK,aL,aM,aN,aO,aP,aQ,aR,aS,aT,aU,aV,aW,aX,aY,aZ,bA,bB,bC,bD,bE,bF,bG,bH,bI,bJ,bK,bL,bM,bN,bO,bP,bQ,bR,bS,bT,bU,bV,bW,bX,bY,bZ,cA,cB,cC,cD,cE,cF,cG,cH,cI,cJ,cK,cL,cM,cN,cO,cP,cQ,cR,cS,cT,cU] [] w = some r :=
  ((s80J7eq w).trans ((Ev.bind_mono fun (_ : Value) => (s80J10of)) h))
set_option maxRecDepth 100000 in
theorem s80J8eq (w : World) : s80J8 [aA,aB,aC,aD,aE,aF,aG,aH,aI,aJ,aK,aL,aM,aN,aO,aP,aQ,aR,aS,aT,aU,aV,aW,aX,aY,aZ,bA,bB,bC,bD,bE,bF,bG,bH,bI,bJ,bK,bL,bM,bN,bO,bP,bQ,bR,bS,bT,bU,bV,bW,bX,bY,bZ,cA,cB,cC,cD,cE,cF,cG,cH,cI,cJ,cK,cL,cM,cN,cO,cP,cQ,cR,cS,cT,cU] [] w = s80M8raw aA aB aC aD aE aF aG aH aI aJ aK aL aM aN aO aP aQ aR aS aT aU aV aW aX aY aZ bA bB bC bD bE bF bG bH bI bJ bK bL bM bN bO bP bQ bR bS bT bU bV bW bX bY bZ cA cB cC cD cE cF cG cH cI cJ cK cL cM cN cO cP cQ cR cS cT cU w := (show _ = evK Tryd.prog 80 none (nav [1, 1, 1, 1, 1, 1, 0, 1] (bodyOf Tryd.f80)) none _ ⟨[aA,aB,aC,aD,aE,aF,aG,aH,aI,aJ,aK,aL,aM,aN,aO,aP,aQ,aR,aS,aT,aU,aV,aW,aX,aY,aZ,bA,bB,bC,bD,bE,bF,bG,bH,bI,bJ,bK,bL,bM,bN,bO,bP,bQ,bR,bS,bT,bU,bV,bW,bX,bY,bZ,cA,cB,cC,cD,cE,cF,cG,cH,cI,cJ,cK,cL,cM,cN,cO,cP,cQ,cR,cS,cT,cU].toArray, []⟩ w s80K9 from by kernel_rfl).trans (by kernel_rfl)
set_option maxRecDepth 100000 in
theorem s80J8of {w : World} {r : _} (h : s80M8 aC aH aI aJ bM w = some r) : s80J8 [aA,aB,aC,aD,aE,aF,aG,aH,aI,aJ,aK,aL,aM,aN,aO,aP,aQ,aR,aS,aT,aU,aV,aW,aX,aY,aZ,bA,bB,bC,bD,bE,bF,bG,bH,bI,bJ,bK,bL,bM,bN,bO,bP,bQ,bR,bS,bT,bU,bV,bW,bX,bY,bZ,cA,cB,cC,cD,cE,cF,cG,cH,cI,cJ,cK,cL,cM,cN,cO,cP,cQ,cR,cS,cT,cU] [] w = some r :=
  ((s80J8eq w).trans ((condK_mono id (s80J7of)) h))
theorem s80J4rg {β : Type} (K : Exit → Act → World → Option β) (w : World) : evK Tryd.prog 80 none (nav [1, 1, 1, 1, 1, 1, 0, 0] (bodyOf Tryd.f80)) none _ ⟨[aA,aB,aC,aD,aE,aF,aG,aH,aI,aJ,aK,aL,aM,aN,aO,aP,aQ,aR,aS,aT,aU,aV,aW,aX,aY,aZ,bA,bB,bC,bD,bE,bF,bG,bH,bI,bJ,bK,bL,bM,bN,bO,bP,bQ,bR,bS,bT,bU,bV,bW,bX,bY,bZ,cA,cB,cC,cD,cE,cF,cG,cH,cI,cJ,cK,cL,cM,cN,cO,cP,cQ,cR,cS,cT,cU].toArray, []⟩ w K =
    (QbinN Tryd.prog .neq 95 aH).bind fun v596 =>
    (guardQ v596 true (Qiface Tryd.prog 137 (Value.int .i64 1))).bind fun v597 =>
    (guardQ v596 true (Qbin Tryd.prog .neq 95 (gv (isB v596 true) aH) v597)).bind fun v598 =>
    (Qpick v596 v598 (Value.bool false)).bind fun v599 =>
    K Exit.normal ⟨[aA,aB,aC,aD,aE,aF,aG,aH,aI,aJ,aK,aL,aM,aN,aO,aP,aQ,aR,aS,aT,aU,aV,aW,aX,aY,aZ,bA,bB,bC,bD,bE,bF,aH, v596, v596, (gv (isB v596 true) aH), v597, v598, v599, bN,bO,bP,bQ,bR,bS,bT,bU,bV,bW,bX,bY,bZ,cA,cB,cC,cD,cE,cF,cG,cH,cI,cJ,cK,cL,cM,cN,cO,cP,cQ,cR,cS,cT,cU].toArray, []⟩ w := by kernel_rfl
set_option maxRecDepth 100000 in
theorem s80J4eq (w : World) : s80J4 [aA,aB,aC,aD,aE,aF,aG,aH,aI,aJ,aK,aL,aM,aN,aO,aP,aQ,aR,aS,aT,aU,aV,aW,aX,aY,aZ,bA,bB,bC,bD,bE,bF,bG,bH,bI,bJ,bK,bL,bM,bN,bO,bP,bQ,bR,bS,bT,bU,bV,bW,bX,bY,bZ,cA,cB,cC,cD,cE,cF,cG,cH,cI,cJ,cK,cL,cM,cN,cO,cP,cQ,cR,cS,cT,cU] [] w = s80M4raw aA aB aC aD aE aF aG aH aI aJ aK aL aM aN aO aP aQ aR aS aT aU aV aW aX aY aZ bA bB bC bD bE bF bG bH bI bJ bK bL bM bN bO bP bQ bR bS bT bU bV bW bX bY bZ cA cB cC cD cE cF cG cH cI cJ cK cL cM cN cO cP cQ cR cS cT cU w := (show _ = seqK (fun a w => evK Tryd.prog 80 none (nav [1, 1, 1, 1, 1, 1] (bodyOf Tryd.f80)) none _ a w (leaveK Tryd.prog Tryd.f80)) (leaveK Tryd.prog Tryd.f80) .normal ⟨[aA,aB,aC,aD,aE,aF,aG,aH,aI,aJ,aK,aL,aM,aN,aO,aP,aQ,aR,aS,aT,aU,aV,aW,aX,aY,aZ,bA,bB,bC,bD,bE,bF,bG,bH,bI,bJ,bK,bL,bM,bN,bO,bP,bQ,bR,bS,bT,bU,bV,bW,bX,bY,bZ,cA,cB,cC,cD,cE,cF,cG,cH,cI,cJ,cK,cL,cM,cN,cO,cP,cQ,cR,cS,cT,cU].toArray, []⟩ w from by kernel_rfl).trans ((seqK_n (fun a w => evK Tryd.prog 80 none (nav [1, 1, 1, 1, 1, 1] (bodyOf Tryd.f80)) none _ a w (leaveK Tryd.prog Tryd.f80)) (leaveK Tryd.prog Tryd.f80) ⟨[aA,aB,aC,aD,aE,aF,aG,aH,aI,aJ,aK,aL,aM,aN,aO,aP,aQ,aR,aS,aT,aU,aV,aW,aX,aY,aZ,bA,bB,bC,bD,bE,bF,bG,bH,bI,bJ,bK,bL,bM,bN,bO,bP,bQ,bR,bS,bT,bU,bV,bW,bX,bY,bZ,cA,cB,cC,cD,cE,cF,cG,cH,cI,cJ,cK,cL,cM,cN,cO,cP,cQ,cR,cS,cT,cU].toArray, []⟩ w).trans ((show evK Tryd.prog 80 none (nav [1, 1, 1, 1, 1, 1] (bodyOf Tryd.f80)) none _ ⟨[aA,aB,aC,aD,aE,aF,aG,aH,aI,aJ,aK,aL,aM,aN,aO,aP,aQ,aR,aS,aT,aU,aV,aW,aX,aY,aZ,bA,bB,bC,bD,bE,bF,bG,bH,bI,bJ,bK,bL,bM,bN,bO,bP,bQ,bR,bS,bT,bU,bV,bW,bX,bY,bZ,cA,cB,cC,cD,cE,cF,cG,cH,cI,cJ,cK,cL,cM,cN,cO,cP,cQ,cR,cS,cT,cU].toArray, []⟩ w (leaveK Tryd.prog Tryd.f80) = evK Tryd.prog 80 none (nav [1, 1, 1, 1, 1, 1, 0, 0] (bodyOf Tryd.f80)) none _ ⟨[aA,aB,aC,aD,aE,aF,aG,aH,aI,aJ,aK,aL,aM,aN,aO,aP,aQ,aR,aS,aT,aU,aV,aW,aX,aY,aZ,bA,bB,bC,bD,bE,bF,bG,bH,bI,bJ,bK,bL,bM,bN,bO,bP,bQ,bR,bS,bT,bU,bV,bW,bX,bY,bZ,cA,cB,cC,cD,cE,cF,cG,cH,cI,cJ,cK,cL,cM,cN,cO,cP,cQ,cR,cS,cT,cU].toArray, []⟩ w s80K10 from by kernel_rfl).trans ((s80J4rg s80K10 w).trans (by kernel_rfl))))
set_option maxRecDepth 100000 in
theorem s80J4of {w : World} {r : _} (h : s80M4 aC aH aI aJ w = some r) : s80J4 [aA,aB,aC,aD,aE,aF,aG,aH,aI,aJ,aK,aL,aM,aN,aO,aP,aQ,aR,aS,aT,aU,aV,aW,aX,aY,aZ,bA,bB,bC,bD,bE,bF,bG,bH,bI,bJ,bK,bL,bM,bN,bO,bP,bQ,bR,bS,bT,bU,bV,bW,bX,bY,bZ,cA,cB,cC,cD,cE,cF,cG,cH,cI,cJ,cK,cL,cM,cN,cO,cP,cQ,cR,cS,cT,cU] [] w = some r :=
  ((s80J4eq w).trans ((Ev.bind_mono fun (_ : Value) => (Ev.bind_mono fun (_ : Value) => (Ev.bind_mono fun (_ : Value) => (Ev.bind_mono fun (_ : Value) => (s80J8of))))) h))
theorem s80J2rg {β : Type} (K : Exit → Act → World → Option β) (w : World) : evK Tryd.prog 80 none (nav [1, 1, 1, 1, 0] (bodyOf Tryd.f80)) none _ ⟨[aA,aB,aC,aD,aE,aF,aG,aH,aI,aJ,aK,aL,aM,aN,aO,aP,aQ,aR,aS,aT,aU,aV,aW,aX,aY,aZ,bA,bB,bC,bD,bE,bF,bG,bH,bI,bJ,bK,bL,bM,bN,bO,bP,bQ,bR,bS,bT,bU,bV,bW,bX,bY,bZ,cA,cB,cC,cD,cE,cF,cG,cH,cI,cJ,cK,cL,cM,cN,cO,cP,cQ,cR,cS,cT,cU].toArray, []⟩ w K =
    K Exit.normal ⟨[aA,aB,aC,aD,aE,aF,aG,aH,aI, (Value.int .u64 0), aK,aL,aM,aN,aO,aP,aQ,aR,aS,aT,aU,aV,aW,aX,aY,aZ,bA,bB,bC,bD,bE,bF,bG,bH,bI,bJ,bK,bL,bM,bN,bO,bP,bQ,bR,bS,bT,bU,bV,bW,bX,bY,bZ,cA,cB,cC,cD,cE,cF,cG,cH,cI,cJ,cK,cL,cM,cN,cO,cP,cQ,cR,cS,cT,cU].toArray, []⟩ w := by kernel_rfl
set_option maxRecDepth 100000 in
theorem s80J2eq (w : World) : s80J2 [aA,aB,aC,aD,aE,aF,aG,aH,aI,aJ,aK,aL,aM,aN,aO,aP,aQ,aR,aS,aT,aU,aV,aW,aX,aY,aZ,bA,bB,bC,bD,bE,bF,bG,bH,bI,bJ,bK,bL,bM,bN,bO,bP,bQ,bR,bS,bT,bU,bV,bW,bX,bY,bZ,cA,cB,cC,cD,cE,cF,cG,cH,cI,cJ,cK,cL,cM,cN,cO,cP,cQ,cR,cS,cT,cU] [] w = s80M2raw aA aB aC aD aE aF aG aH aI aJ aK aL aM aN aO aP aQ aR aS aT aU aV aW aX aY aZ bA bB bC bD bE bF bG bH bI bJ bK bL bM bN bO bP bQ bR bS bT bU bV bW bX bY bZ cA cB cC cD cE cF cG cH cI cJ cK cL cM cN cO cP cQ cR cS cT cU w := (show _ = seqK (fun a w => evK Tryd.prog 80 none (nav [1, 1, 1, 1] (bodyOf Tryd.f80)) none _ a w (leaveK Tryd.prog Tryd.f80)) (leaveK Tryd.prog Tryd.f80) .normal ⟨[aA,aB,aC,aD,aE,aF,aG,aH,aI,aJ,aK,aL,aM,aN,aO,aP,aQ,aR,aS,aT,aU,aV,aW,aX,aY,aZ,bA,bB,bC,bD,bE,bF,bG,bH,bI,bJ,bK,bL,bM,bN,bO,bP,bQ,bR,bS,bT,bU,bV,bW,bX,bY,bZ,cA,cB,cC,cD,cE,cF,cG,cH,cI,cJ,cK,cL,cM,cN,cO,cP,cQ,cR,cS,cT,cU].toArray, []⟩ w from by kernel_rfl).trans ((seqK_n (fun a w => evK Tryd.prog 80 none (nav [1, 1, 1, 1] (bodyOf Tryd.f80)) none _ a w (leaveK Tryd.prog Tryd.f80)) (leaveK Tryd.prog Tryd.f80) ⟨[aA,aB,aC,aD,aE,aF,aG,aH,aI,aJ,aK,aL,aM,aN,aO,aP,aQ,aR,aS,aT,aU,aV,aW,aX,aY,aZ,bA,bB,bC,bD,bE,bF,bG,bH,bI,bJ,bK,bL,bM,bN,bO,bP,bQ,bR,bS,bT,bU,bV,bW,bX,bY,bZ,cA,cB,cC,cD,cE,cF,cG,cH,cI,cJ,cK,cL,cM,cN,cO,cP,cQ,cR,cS,cT,cU].toArray, []⟩ w).trans ((show evK Tryd.prog 80 none (nav [1, 1, 1, 1] (bodyOf Tryd.f80)) none _ ⟨[aA,aB,aC,aD,aE,aF,aG,aH,aI,aJ,aK,aL,aM,aN,aO,aP,aQ,aR,aS,aT,aU,aV,aW,aX,aY,aZ,bA,bB,bC,bD,bE,bF,bG,bH,bI,bJ,bK,bL,bM,bN,bO,bP,bQ,bR,bS,bT,bU,bV,bW,bX,bY,bZ,cA,cB,cC,cD,cE,cF,cG,cH,cI,cJ,cK,cL,cM,cN,cO,cP,cQ,cR,cS,cT,cU].toArray, []⟩ w (leaveK Tryd.prog Tryd.f80) = evK Tryd.prog 80 none (nav [1, 1, 1, 1, 0] (bodyOf Tryd.f80)) none _ ⟨[aA,aB,aC,aD,aE,aF,aG,aH,aI,aJ,aK,aL,aM,aN,aO,aP,aQ,aR,aS,aT,aU,aV,aW,aX,aY,aZ,bA,bB,bC,bD,bE,bF,bG,bH,bI,bJ,bK,bL,bM,bN,bO,bP,bQ,bR,bS,bT,bU,bV,bW,bX,bY,bZ,cA,cB,cC,cD,cE,cF,cG,cH,cI,cJ,cK,cL,cM,cN,cO,cP,cQ,cR,cS,cT,cU].toArray, []⟩ w s80K6 from by kernel_rfl).trans ((s80J2rg s80K6 w).trans (by kernel_rfl))))
set_option maxRecDepth 100000 in
theorem s80J2of {w : World} {r : _} (h : s80M2 aA aB aC aI w = some r) : s80J2 [aA,aB,aC,aD,aE,aF,aG,aH,aI,aJ,aK,aL,aM,aN,aO,aP,aQ,aR,aS,aT,aU,aV,aW,aX,aY,aZ,bA,bB,bC,bD,bE,bF,bG,bH,bI,bJ,bK,bL,bM,bN,bO,bP,bQ,bR,bS,bT,bU,bV,bW,bX,bY,bZ,cA,cB,cC,cD,cE,cF,cG,cH,cI,cJ,cK,cL,cM,cN,cO,cP,cQ,cR,cS,cT,cU] [] w = some r :=
  ((s80J2eq w).trans ((Ev.bind_mono fun (_ : Value × World) => (Ev.bind_mono fun (_ : Value) => (Ev.bind_mono fun (_ : Value) => (s80J4of)))) h))
theorem s80J5rg {β : Type} (K : Exit → Act → World → Option β) (w : World) : evK Tryd.prog 80 none (nav [1, 1, 1, 1, 0] (bodyOf Tryd.f80)) none _ ⟨[aA,aB,aC,aD,aE,aF,aG,aH,aI,aJ,aK,aL,aM,aN,aO,aP,aQ,aR,aS,aT,aU,aV,aW,aX,aY,aZ,bA,bB,bC,bD,bE,bF,bG,bH,bI,bJ,bK,bL,bM,bN,bO,bP,bQ,bR,bS,bT,bU,bV,bW,bX,bY,bZ,cA,cB,cC,cD,cE,cF,cG,cH,cI,cJ,cK,cL,cM,cN,cO,cP,cQ,cR,cS,cT,cU].toArray, []⟩ w K =
    K Exit.normal ⟨[aA,aB,aC,aD,aE,aF,aG,aH,aI, (Value.int .u64 0), aK,aL,aM,aN,aO,aP,aQ,aR,aS,aT,aU,aV,aW,aX,aY,aZ,bA,bB,bC,bD,bE,bF,bG,bH,bI,bJ,bK,bL,bM,bN,bO,bP,bQ,bR,bS,bT,bU,bV,bW,bX,bY,bZ,cA,cB,cC,cD,cE,cF,cG,cH,cI,cJ,cK,cL,cM,cN,cO,cP,cQ,cR,cS,cT,cU].toArray, []⟩ w := by kernel_rfl
set_option maxRecDepth 100000 in
theorem s80J5eq (w : World) : s80J5 [aA,aB,aC,aD,aE,aF,aG,aH,aI,aJ,aK,aL,aM,aN,aO,aP,aQ,aR,aS,aT,aU,aV,aW,aX,aY,aZ,bA,bB,bC,bD,bE,bF,bG,bH,bI,bJ,bK,bL,bM,bN,bO,bP,bQ,bR,bS,bT,bU,bV,bW,bX,bY,bZ,cA,cB,cC,cD,cE,cF,cG,cH,cI,cJ,cK,cL,cM,cN,cO,cP,cQ,cR,cS,cT,cU] [] w = s80M5raw aA aB aC aD aE aF aG aH aI aJ aK aL aM aN aO aP aQ aR aS aT aU aV aW aX aY aZ bA bB bC bD bE bF bG bH bI bJ bK bL bM bN bO bP bQ bR bS bT bU bV bW bX bY bZ cA cB cC cD cE cF cG cH cI cJ cK cL cM cN cO cP cQ cR cS cT cU w := (show _ = seqK (fun a w => evK Tryd.prog 80 none (nav [1, 1, 1, 1] (bodyOf Tryd.f80)) none _ a w (leaveK Tryd.prog Tryd.f80)) (leaveK Tryd.prog Tryd.f80) .normal ⟨[aA,aB,aC,aD,aE,aF,aG,aH,aI,aJ,aK,aL,aM,aN,aO,aP,aQ,aR,aS,aT,aU,aV,aW,aX,aY,aZ,bA,bB,bC,bD,bE,bF,bG,bH,bI,bJ,bK,bL,bM,bN,bO,bP,bQ,bR,bS,bT,bU,bV,bW,bX,bY,bZ,cA,cB,cC,cD,cE,cF,cG,cH,cI,cJ,cK,cL,cM,cN,cO,cP,cQ,cR,cS,cT,cU].toArray, []⟩ w from by kernel_rfl).trans ((seqK_n (fun a w => evK Tryd.prog 80 none (nav [1, 1, 1, 1] (bodyOf Tryd.f80)) none _ a w (leaveK Tryd.prog Tryd.f80)) (leaveK Tryd.prog Tryd.f80) ⟨[aA,aB,aC,aD,aE,aF,aG,aH,aI,aJ,aK,aL,aM,aN,aO,aP,aQ,aR,aS,aT,aU,aV,aW,aX,aY,aZ,bA,bB,bC,bD,bE,bF,bG,bH,bI,bJ,bK,bL,bM,bN,bO,bP,bQ,bR,bS,bT,bU,bV,bW,bX,bY,bZ,cA,cB,cC,cD,cE,cF,cG,cH,cI,cJ,cK,cL,cM,cN,cO,cP,cQ,cR,cS,cT,cU].toArray, []⟩ w).trans ((show evK Tryd.prog 80 none (nav [1, 1, 1, 1] (bodyOf Tryd.f80)) none _ ⟨[aA,aB,aC,aD,aE,aF,aG,aH,aI,aJ,aK,aL,aM,aN,aO,aP,aQ,aR,aS,aT,aU,aV,aW,aX,aY,aZ,bA,bB,bC,bD,bE,bF,bG,bH,bI,bJ,bK,bL,bM,bN,bO,bP,bQ,bR,bS,bT,bU,bV,bW,bX,bY,bZ,cA,cB,cC,cD,cE,cF,cG,cH,cI,cJ,cK,cL,cM,cN,cO,cP,cQ,cR,cS,cT,cU].toArray, []⟩ w (leaveK Tryd.prog Tryd.f80) = evK Tryd.prog 80 none (nav [1, 1, 1, 1, 0] (bodyOf Tryd.f80)) none _ ⟨[aA,aB,aC,aD,aE,aF,aG,aH,aI,aJ,aK,aL,aM,aN,aO,aP,aQ,aR,aS,aT,aU,aV,aW,aX,aY,aZ,bA,bB,bC,bD,bE,bF,bG,bH,bI,bJ,bK,bL,bM,bN,bO,bP,bQ,bR,bS,bT,bU,bV,bW,bX,bY,bZ,cA,cB,cC,cD,cE,cF,cG,cH,cI,cJ,cK,cL,cM,cN,cO,cP,cQ,cR,cS,cT,cU].toArray, []⟩ w s80K6 from by kernel_rfl).trans ((s80J5rg s80K6 w).trans (by kernel_rfl))))
set_option maxRecDepth 100000 in
theorem s80J5of {w : World} {r : _} (h : s80M5 aA aB aC aI w = some r) : s80J5 [aA,aB,aC,aD,aE,aF,aG,aH,aI,aJ,aK,aL,aM,aN,aO,aP,aQ,aR,aS,aT,aU,aV,aW,aX,aY,aZ,bA,bB,bC,bD,bE,bF,bG,bH,bI,bJ,bK,bL,bM,bN,bO,bP,bQ,bR,bS,bT,bU,bV,bW,bX,bY,bZ,cA,cB,cC,cD,cE,cF,cG,cH,cI,cJ,cK,cL,cM,cN,cO,cP,cQ,cR,cS,cT,cU] [] w = some r :=
  ((s80J5eq w).trans ((s80J2of) h))
theorem s80J6rg {β : Type} (K : Exit → Act → World → Option β) (w : World) : evK Tryd.prog 80 none (nav [1, 1, 1, 0, 1, 0, 1] (bodyOf Tryd.f80)) none _ ⟨[aA,aB,aC,aD,aE,aF,aG,aH,aI,aJ,aK,aL,aM,aN,aO,aP,aQ,aR,aS,aT,aU,aV,aW,aX,aY,aZ,bA,bB,bC,bD,bE,bF,bG,bH,bI,bJ,bK,bL,bM,bN,bO,bP,bQ,bR,bS,bT,bU,bV,bW,bX,bY,bZ,cA,cB,cC,cD,cE,cF,cG,cH,cI,cJ,cK,cL,cM,cN,cO,cP,cQ,cR,cS,cT,cU].toArray, []⟩ w K =
    condK aR (
      (Qslice Tryd.prog 9 aA (some (Value.int .i64 1)) none none w).bind fun v603 =>
      K Exit.normal ⟨[v603, aB,aC,aD,aE,aF,aG,aH,aI,aJ,aK,aL,aM,aN,aO,aP,aQ,aR,aS,aA, v603, aV,aW,aX,aY,aZ,bA,bB,bC,bD,bE,bF,bG,bH,bI,bJ,bK,bL,bM,bN,bO,bP,bQ,bR,bS,bT,bU,bV,bW,bX,bY,bZ,cA,cB,cC,cD,cE,cF,cG,cH,cI,cJ,cK,cL,cM,cN,cO,cP,cQ,cR,cS,cT,cU].toArray, []⟩ w
    ) (
      (Qbin Tryd.prog .eql 5 aQ (Value.int .u8 45)).bind fun v604 =>
      condK v604 (
        (Qslice Tryd.prog 9 aA (some (Value.int .i64 1)) none none w).bind fun v605 =>
        K Exit.normal ⟨[v605, aB,aC,aD,aE,aF,aG,aH, (Value.bool true), aJ,aK,aL,aM,aN,aO,aP,aQ,aR,aS,aT,aU, v604, v604, aA, v605, aZ,bA,bB,bC,bD,bE,bF,bG,bH,bI,bJ,bK,bL,bM,bN,bO,bP,bQ,bR,bS,bT,bU,bV,bW,bX,bY,bZ,cA,cB,cC,cD,cE,cF,cG,cH,cI,cJ,cK,cL,cM,cN,cO,cP,cQ,cR,cS,cT,cU].toArray, []⟩ w
      ) (
        K Exit.normal ⟨[aA,aB,aC,aD,aE,aF,aG,aH,aI,aJ,aK,aL,aM,aN,aO,aP,aQ,aR,aS,aT,aU, v604, v604, aX,aY,aZ,bA,bB,bC,bD,bE,bF,bG,bH,bI,bJ,bK,bL,bM,bN,bO,bP,bQ,bR,bS,bT,bU,bV,bW,bX,bY,bZ,cA,cB,cC,cD,cE,cF,cG,cH,cI,cJ,cK,cL,cM,cN,cO,cP,cQ,cR,cS,cT,cU].toArray, []⟩ w
      )
    ) := by kernel_rfl
set_option maxRecDepth 100000 in
theorem s80J6eq (w : World) : s80J6 [aA,aB,aC,aD,aE,aF,aG,aH,aI,aJ,aK,aL,aM,aN,aO,aP,aQ,aR,aS,aT,aU,aV,aW,aX,aY,aZ,bA,bB,bC,bD,bE,bF,bG,bH,bI,bJ,bK,bL,bM,bN,bO,bP,bQ,bR,bS,bT,bU,bV,bW,bX,bY,bZ,cA,cB,cC,cD,cE,cF,cG,cH,cI,cJ,cK,cL,cM,cN,cO,cP,cQ,cR,cS,cT,cU] [] w = s80M6raw aA aB aC aD aE aF aG aH aI aJ aK aL aM aN aO aP aQ aR aS aT aU aV aW aX aY aZ bA bB bC bD bE bF bG bH bI bJ bK bL bM bN bO bP bQ bR bS bT bU bV bW bX bY bZ cA cB cC cD cE cF cG cH cI cJ cK cL cM cN cO cP cQ cR cS cT cU w := (show _ = seqK (fun a w => evK Tryd.prog 80 none (nav [1, 1, 1, 0, 1, 0, 1] (bodyOf Tryd.f80)) none _ a w s80K7) s80K7 .normal ⟨[aA,aB,aC,aD,aE,aF,aG,aH,aI,aJ,aK,aL,aM,aN,aO,aP,aQ,aR,aS,aT,aU,aV,aW,aX,aY,aZ,bA,bB,bC,bD,bE,bF,bG,bH,bI,bJ,bK,bL,bM,bN,bO,bP,bQ,bR,bS,bT,bU,bV,bW,bX,bY,bZ,cA,cB,cC,cD,cE,cF,cG,cH,cI,cJ,cK,cL,cM,cN,cO,cP,cQ,cR,cS,cT,cU].toArray, []⟩ w from by kernel_rfl).trans ((seqK_n _ _ _ _).trans ((s80J6rg s80K7 w).trans (by kernel_rfl)))
set_option maxRecDepth 100000 in
theorem s80J6of {w : World} {r : _} (h : s80M6 aA aB aC aI aQ aR w = some r) : s80J6 [aA,aB,aC,aD,aE,aF,aG,aH,aI,aJ,aK,aL,aM,aN,aO,aP,aQ,aR,aS,aT,aU,aV,aW,aX,aY,aZ,bA,bB,bC,bD,bE,bF,bG,bH,bI,bJ,bK,bL,bM,bN,bO,bP,bQ,bR,bS,bT,bU,bV,bW,bX,bY,bZ,cA,cB,cC,cD,cE,cF,cG,cH,cI,cJ,cK,cL,cM,cN,cO,cP,cQ,cR,cS,cT,cU] [] w = some r :=
  ((s80J6eq w).trans ((condK_mono (Ev.bind_mono fun (_ : Value) => (s80J5of)) (Ev.bind_mono fun (_ : Value) => (condK_mono (Ev.bind_mono fun (_ : Value) => (s80J5of)) (s80J5of)))) h))
set_option maxRecDepth 100000 in
theorem s80J3eq (w : World) : s80J3 [aA,aB,aC,aD,aE,aF,aG,aH,aI,aJ,aK,aL,aM,aN,aO,aP,aQ,aR,aS,aT,aU,aV,aW,aX,aY,aZ,bA,bB,bC,bD,bE,bF,bG,bH,bI,bJ,bK,bL,bM,bN,bO,bP,bQ,bR,bS,bT,bU,bV,bW,bX,bY,bZ,cA,cB,cC,cD,cE,cF,cG,cH,cI,cJ,cK,cL,cM,cN,cO,cP,cQ,cR,cS,cT,cU] [] w = s80M3raw aA aB aC aD aE aF aG aH aI aJ aK aL aM aN aO aP aQ aR aS aT aU aV aW aX aY aZ bA bB bC bD bE bF bG bH bI bJ bK bL bM bN bO bP bQ bR bS bT bU bV bW bX bY bZ cA cB cC cD cE cF cG cH cI cJ cK cL cM cN cO cP cQ cR cS cT cU w := (show _ = evK Tryd.prog 80 none (nav [1, 1, 1, 0, 1] (bodyOf Tryd.f80)) none _ ⟨[aA,aB,aC,aD,aE,aF,aG,aH,aI,aJ,aK,aL,aM,aN,aO,aP,aQ,aR,aS,aT,aU,aV,aW,aX,aY,aZ,bA,bB,bC,bD,bE,bF,bG,bH,bI,bJ,bK,bL,bM,bN,bO,bP,bQ,bR,bS,bT,bU,bV,bW,bX,bY,bZ,cA,cB,cC,cD,cE,cF,cG,cH,cI,cJ,cK,cL,cM,cN,cO,cP,cQ,cR,cS,cT,cU].toArray, []⟩ w s80K2 from by kernel_rfl).trans (by kernel_rfl)
set_option maxRecDepth 100000 in
theorem s80J3of {w : World} {r : _} (h : s80M3 aA aB aC aI aQ w = some r) : s80J3 [aA,aB,aC,aD,aE,aF,aG,aH,aI,aJ,aK,aL,aM,aN,aO,aP,aQ,aR,aS,aT,aU,aV,aW,aX,aY,aZ,bA,bB,bC,bD,bE,bF,bG,bH,bI,bJ,bK,bL,bM,bN,bO,bP,bQ,bR,bS,bT,bU,bV,bW,bX,bY,bZ,cA,cB,cC,cD,cE,cF,cG,cH,cI,cJ,cK,cL,cM,cN,cO,cP,cQ,cR,cS,cT,cU] [] w = some r :=
  ((s80J3eq w).trans ((Ev.bind_mono fun (_ : Value) => (s80J6of)) h))
theorem s80J0rg {β : Type} (K : Exit → Act → World → Option β) (w : World) : evK Tryd.prog 80 none (nav [1, 1, 0] (bodyOf Tryd.f80)) none _ ⟨[aA,aB,aC,aD,aE,aF,aG,aH,aI,aJ,aK,aL,aM,aN,aO,aP,aQ,aR,aS,aT,aU,aV,aW,aX,aY,aZ,bA,bB,bC,bD,bE,bF,bG,bH,bI,bJ,bK,bL,bM,bN,bO,bP,bQ,bR,bS,bT,bU,bV,bW,bX,bY,bZ,cA,cB,cC,cD,cE,cF,cG,cH,cI,cJ,cK,cL,cM,cN,cO,cP,cQ,cR,cS,cT,cU].toArray, []⟩ w K =
    K Exit.normal ⟨[aA,aB,aC,aD,aE,aF,aG,aH, (Value.bool false), aJ,aK,aL,aM,aN,aO,aP,aQ,aR,aS,aT,aU,aV,aW,aX,aY,aZ,bA,bB,bC,bD,bE,bF,bG,bH,bI,bJ,bK,bL,bM,bN,bO,bP,bQ,bR,bS,bT,bU,bV,bW,bX,bY,bZ,cA,cB,cC,cD,cE,cF,cG,cH,cI,cJ,cK,cL,cM,cN,cO,cP,cQ,cR,cS,cT,cU].toArray, []⟩ w := by kernel_rfl
set_option maxRecDepth 100000 in
theorem s80J0eq (w : World) : s80J0 [aA,aB,aC,aD,aE,aF,aG,aH,aI,aJ,aK,aL,aM,aN,aO,aP,aQ,aR,aS,aT,aU,aV,aW,aX,aY,aZ,bA,bB,bC,bD,bE,bF,bG,bH,bI,bJ,bK,bL,bM,bN,bO,bP,bQ,bR,bS,bT,bU,bV,bW,bX,bY,bZ,cA,cB,cC,cD,cE,cF,cG,cH,cI,cJ,cK,cL,cM,cN,cO,cP,cQ,cR,cS,cT,cU] [] w = s80M0raw aA aB aC aD aE aF aG aH aI aJ aK aL aM aN aO aP aQ aR aS aT aU aV aW aX aY aZ bA bB bC bD bE bF bG bH bI bJ bK bL bM bN bO bP bQ bR bS bT bU bV bW bX bY bZ cA cB cC cD cE cF cG cH cI cJ cK cL cM cN cO cP cQ cR cS cT cU w := (show _ = seqK (fun a w => evK Tryd.prog 80 none (nav [1, 1] (bodyOf Tryd.f80)) none _ a w (leaveK Tryd.prog Tryd.f80)) (leaveK Tryd.prog Tryd.f80) .normal ⟨[aA,aB,aC,aD,aE,aF,aG,aH,aI,aJ,aK,aL,aM,aN,aO,aP,aQ,aR,aS,aT,aU,aV,aW,aX,aY,aZ,bA,bB,bC,bD,bE,bF,bG,bH,bI,bJ,bK,bL,bM,bN,bO,bP,bQ,bR,bS,bT,bU,bV,bW,bX,bY,bZ,cA,cB,cC,cD,cE,cF,cG,cH,cI,cJ,cK,cL,cM,cN,cO,cP,cQ,cR,cS,cT,cU].toArray, []⟩ w from by kernel_rfl).trans ((seqK_n (fun a w => evK Tryd.prog 80 none (nav [1, 1] (bodyOf Tryd.f80)) none _ a w (leaveK Tryd.prog Tryd.f80)) (leaveK Tryd.prog Tryd.f80) ⟨[aA,aB,aC,aD,aE,aF,aG,aH,aI,aJ,aK,aL,aM,aN,aO,aP,aQ,aR,aS,aT,aU,aV,aW,aX,aY,aZ,bA,bB,bC,bD,bE,bF,bG,bH,bI,bJ,bK,bL,bM,bN,bO,bP,bQ,bR,bS,bT,bU,bV,bW,bX,bY,bZ,cA,cB,cC,cD,cE,cF,cG,cH,cI,cJ,cK,cL,cM,cN,cO,cP,cQ,cR,cS,cT,cU].toArray, []⟩ w).trans ((show evK Tryd.prog 80 none (nav [1, 1] (bodyOf Tryd.f80)) none _ ⟨[aA,aB,aC,aD,aE,aF,aG,aH,aI,aJ,aK,aL,aM,aN,aO,aP,aQ,aR,aS,aT,aU,aV,aW,aX,aY,aZ,bA,bB,bC,bD,bE,bF,bG,bH,bI,bJ,bK,bL,bM,bN,bO,bP,bQ,bR,bS,bT,bU,bV,bW,bX,bY,bZ,cA,cB,cC,cD,cE,cF,cG,cH,cI,cJ,cK,cL,cM,cN,cO,cP,cQ,cR,cS,cT,cU].toArray, []⟩ w (leaveK Tryd.prog Tryd.f80) = evK Tryd.prog 80 none (nav [1, 1, 0] (bodyOf Tryd.f80)) none _ ⟨[aA,aB,aC,aD,aE,aF,aG,aH,aI,aJ,aK,aL,aM,aN,aO,aP,aQ,aR,aS,aT,aU,aV,aW,aX,aY,aZ,bA,bB,bC,bD,bE,bF,bG,bH,bI,bJ,bK,bL,bM,bN,bO,bP,bQ,bR,bS,bT,bU,bV,bW,bX,bY,bZ,cA,cB,cC,cD,cE,cF,cG,cH,cI,cJ,cK,cL,cM,cN,cO,cP,cQ,cR,cS,cT,cU].toArray, []⟩ w s80K4 from by kernel_rfl).trans ((s80J0rg s80K4 w).trans (by kernel_rfl))))
set_option maxRecDepth 100000 in
theorem s80J0of {w : World} {r : _} (h : s80M0 aA aB aC w = some r) : s80J0 [aA,aB,aC,aD,aE,aF,aG,aH,aI,aJ,aK,aL,aM,aN,aO,aP,aQ,aR,aS,aT,aU,aV,aW,aX,aY,aZ,bA,bB,bC,bD,bE,bF,bG,bH,bI,bJ,bK,bL,bM,bN,bO,bP,bQ,bR,bS,bT,bU,bV,bW,bX,bY,bZ,cA,cB,cC,cD,cE,cF,cG,cH,cI,cJ,cK,cL,cM,cN,cO,cP,cQ,cR,cS,cT,cU] [] w = some r :=
  ((s80J0eq w).trans ((Ev.bind_mono fun (_ : Value) => (s80J3of)) h))
set_option maxRecDepth 100000 in
theorem s80J1eq (w : World) : s80J1 [aA,aB,aC,aD,aE,aF,aG,aH,aI,aJ,aK,aL,aM,aN,aO,aP,aQ,aR,aS,aT,aU,aV,aW,aX,aY,aZ,bA,bB,bC,bD,bE,bF,bG,bH,bI,bJ,bK,bL,bM,bN,bO,bP,bQ,bR,bS,bT,bU,bV,bW,bX,bY,bZ,cA,cB,cC,cD,cE,cF,cG,cH,cI,cJ,cK,cL,cM,cN,cO,cP,cQ,cR,cS,cT,cU] [] w = s80M1raw aA aB aC aD aE aF aG aH aI aJ aK aL aM aN aO aP aQ aR aS aT aU aV aW aX aY aZ bA bB bC bD bE bF bG bH bI bJ bK bL bM bN bO bP bQ bR bS bT bU bV bW bX bY bZ cA cB cC cD cE cF cG cH cI cJ cK cL cM cN cO cP cQ cR cS cT cU w := (show _ = evK Tryd.prog 80 none (nav [1, 0, 1] (bodyOf Tryd.f80)) none _ ⟨[aA,aB,aC,aD,aE,aF,aG,aH,aI,aJ,aK,aL,aM,aN,aO,aP,aQ,aR,aS,aT,aU,aV,aW,aX,aY,aZ,bA,bB,bC,bD,bE,bF,bG,bH,bI,bJ,bK,bL,bM,bN,bO,bP,bQ,bR,bS,bT,bU,bV,bW,bX,bY,bZ,cA,cB,cC,cD,cE,cF,cG,cH,cI,cJ,cK,cL,cM,cN,cO,cP,cQ,cR,cS,cT,cU].toArray, []⟩ w s80K0 from by kernel_rfl).trans (by kernel_rfl)
set_option maxRecDepth 100000 in
theorem s80J1of {w : World} {r : _} (h : s80M1 aA aB aC aN w = some r) : s80J1 [aA,aB,aC,aD,aE,aF,aG,aH,aI,aJ,aK,aL,aM,aN,aO,aP,aQ,aR,aS,aT,aU,aV,aW,aX,aY,aZ,bA,bB,bC,bD,bE,bF,bG,bH,bI,bJ,bK,bL,bM,bN,bO,bP,bQ,bR,bS,bT,bU,bV,bW,bX,bY,bZ,cA,cB,cC,cD,cE,cF,cG,cH,cI,cJ,cK,cL,cM,cN,cO,cP,cQ,cR,cS,cT,cU] [] w = some r :=
  ((s80J1eq w).trans ((condK_mono id (s80J0of)) h))
theorem s80eq (x0 x1 x2 : Value) (w : World) : evK Tryd.prog 80 none (bodyOf Tryd.f80) none _ { tmps := (([x0, x1, x2] : List Value) ++ List.replicate (73 - 3) undef).toArray, defers := [] } w (leaveK Tryd.prog Tryd.f80) = s80raw x0 x1 x2 w := by kernel_rfl
set_option maxRecDepth 100000 in
theorem c80 {x0 x1 x2 : Value} {w : World} {r : Value × World} (h : s80 x0 x1 x2 w = some r) : C Tryd.prog 80 #[x0, x1, x2] w = some r :=
  C_ev follows_all drawLaw (by kernel_rfl) Tryd.func80 (by rfl) ((s80eq x0 x1 x2 w).trans (show s80raw x0 x1 x2 w = some r from (Ev.bind_mono fun (_ : Value) => (s80J1of)) h))
theorem e80 {x0 x1 x2 : Value} {w : World} {Q : Value × World → Prop} (h : Brings (s80 x0 x1 x2 w) Q) : Brings (Xcall Tryd.prog (Value.func (Fn.func 80) #[] #[]) #[x0, x1, x2] w) Q :=
  h.call (Xcall_fn Tryd.func80 (by decide +kernel) (by rfl) _ _ _ w) fun _ h => c80 h

/-! strconv.syntaxError -/
noncomputable def s81 (x0 x1 : Value) (w : World) : Option (Value × World) :=
  (Xcall Tryd.prog (Value.func (Fn.func 98) #[] #[]) #[x1] w.drew).bind fun r633 =>
  (Qload Tryd.prog 95 (Value.pointer (some ⟨3, 0, none⟩)) r633.2).bind fun v634 =>
  (Qbuild Tryd.prog 164 #[(0, x0), (1, r633.1), (2, v634)] r633.2).bind fun v635 =>
  (Xbox Tryd.prog 164 v635 r633.2).bind fun r636 =>
  chkK ((Qload Tryd.prog 95 (Value.pointer (some ⟨3, 0, none⟩)) w.drew = some v634 ∧ Qload Tryd.prog 95 (Value.pointer (some ⟨3, 0, none⟩)) r633.2 = some v634) ∧ True) (
    some (r636.1, r636.2)
  )
theorem s81eq (x0 x1 : Value) (w : World) : evK Tryd.prog 81 none (bodyOf Tryd.f81) none _ { tmps := (([x0, x1] : List Value) ++ List.replicate (11 - 2) undef).toArray, defers := [] } w (leaveK Tryd.prog Tryd.f81) = s81 x0 x1 w := by kernel_rfl
theorem c81 {x0 x1 : Value} {w : World} {r : Value × World} (h : s81 x0 x1 w = some r) : C Tryd.prog 81 #[x0, x1] w = some r :=
  C_ev follows_all drawLaw (by kernel_rfl) Tryd.func81 (by rfl) ((s81eq x0 x1 w).trans h)
theorem e81 {x0 x1 : Value} {w : World} {Q : Value × World → Prop} (h : Brings (s81 x0 x1 w) Q) : Brings (Xcall Tryd.prog (Value.func (Fn.func 81) #[] #[]) #[x0, x1] w) Q :=
  h.call (Xcall_fn Tryd.func81 (by decide +kernel) (by rfl) _ _ _ w) fun _ h => c81 h

/-! strconv.rangeError -/
noncomputable def s82 (x0 x1 : Value) (w : World) : Option (Value × World) :=
  (Xcall Tryd.prog (Value.func (Fn.func 98) #[] #[]) #[x1] w.drew).bind fun r637 =>
  (Qload Tryd.prog 95 (Value.pointer (some ⟨4, 0, none⟩)) r637.2).bind fun v638 =>
  (Qbuild Tryd.prog 164 #[(0, x0), (1, r637.1), (2, v638)] r637.2).bind fun v639 =>
  (Xbox Tryd.prog 164 v639 r637.2).bind fun r640 =>
  chkK ((Qload Tryd.prog 95 (Value.pointer (some ⟨4, 0, none⟩)) w.drew = some v638 ∧ Qload Tryd.prog 95 (Value.pointer (some ⟨4, 0, none⟩)) r637.2 = some v638) ∧ True) (
    some (r640.1, r640.2)
  )
theorem s82eq (x0 x1 : Value) (w : World) : evK Tryd.prog 82 none (bodyOf Tryd.f82) none _ { tmps := (([x0, x1] : List Value) ++ List.replicate (11 - 2) undef).toArray, defers := [] } w (leaveK Tryd.prog Tryd.f82) = s82 x0 x1 w := by kernel_rfl
theorem c82 {x0 x1 : Value} {w : World} {r : Value × World} (h : s82 x0 x1 w = some r) : C Tryd.prog 82 #[x0, x1] w = some r :=
  C_ev follows_all drawLaw (by kernel_rfl) Tryd.func82 (by rfl) ((s82eq x0 x1 w).trans h)
theorem e82 {x0 x1 : Value} {w : World} {Q : Value × World → Prop} (h : Brings (s82 x0 x1 w) Q) : Brings (Xcall Tryd.prog (Value.func (Fn.func 82) #[] #[]) #[x0, x1] w) Q :=
  h.call (Xcall_fn Tryd.func82 (by decide +kernel) (by rfl) _ _ _ w) fun _ h => c82 h

/-! internal/stringslite.Clone -/
noncomputable def s98 (x0 : Value) (w : World) : Option (Value × World) :=
  (Qlen Tryd.prog #[9] 3 #[x0] w).bind fun v641 =>
  (Qbin Tryd.prog .eql 3 v641 (Value.int .i64 0)).bind fun v642 =>
  condK v642 (
    some ((Value.string { data := #[] }), w)
  ) (
    (Qlen Tryd.prog #[9] 3 #[x0] w).bind fun v643 =>
    (XmakeSlice Tryd.prog 22 v643 v643 w).bind fun r644 =>
    (Xbi Tryd.prog Go.Builtin.copy #[22, 9] 3 #[r644.1, x0] r644.2).bind fun r645 =>
    (QindexAddr Tryd.prog 22 r644.1 (Value.int .i64 0) r645.2).bind fun v646 =>
    (Qlen Tryd.prog #[22] 3 #[r644.1] r645.2).bind fun v647 =>
    (Xbi Tryd.prog Go.Builtin.unsafeString #[136, 3] 9 #[v646, v647] r645.2).bind fun r648 =>
    some (r648.1, r648.2)
  )
theorem s98eq (x0 : Value) (w : World) : evK Tryd.prog 98 none (bodyOf Tryd.f98) none _ { tmps := (([x0] : List Value) ++ List.replicate (18 - 1) undef).toArray, defers := [] } w (leaveK Tryd.prog Tryd.f98) = s98 x0 w := by kernel_rfl
theorem c98 {x0 : Value} {w : World} {r : Value × World} (h : s98 x0 w = some r) : C Tryd.prog 98 #[x0] w = some r :=
  C_ev follows_all drawLaw (by kernel_rfl) Tryd.func98 (by rfl) ((s98eq x0 w).trans h)
theorem e98 {x0 : Value} {w : World} {Q : Value × World → Prop} (h : Brings (s98 x0 w) Q) : Brings (Xcall Tryd.prog (Value.func (Fn.func 98) #[] #[]) #[x0] w) Q :=
  h.call (Xcall_fn Tryd.func98 (by decide +kernel) (by rfl) _ _ _ w) fun _ h => c98 h

/-! errors.New -/
noncomputable def s99 (x0 : Value) (w : World) : Option (Value × World) :=
  (Qbuild Tryd.prog 173 #[(0, x0)] w).bind fun v649 =>
  (Xbox Tryd.prog 173 v649 w).bind fun r650 =>
  (Qiface Tryd.prog 171 r650.1).bind fun v651 =>
  some (v651, r650.2)
theorem s99eq (x0 : Value) (w : World) : evK Tryd.prog 99 none (bodyOf Tryd.f99) none _ { tmps := (([x0] : List Value) ++ List.replicate (7 - 1) undef).toArray, defers := [] } w (leaveK Tryd.prog Tryd.f99) = s99 x0 w := by kernel_rfl
theorem c99 {x0 : Value} {w : World} {r : Value × World} (h : s99 x0 w = some r) : C Tryd.prog 99 #[x0] w = some r :=
  C_ev follows_all drawLaw (by kernel_rfl) Tryd.func99 (by rfl) ((s99eq x0 w).trans h)
theorem e99 {x0 : Value} {w : World} {Q : Value × World → Prop} (h : Brings (s99 x0 w) Q) : Brings (Xcall Tryd.prog (Value.func (Fn.func 99) #[] #[]) #[x0] w) Q :=
  h.call (Xcall_fn Tryd.func99 (by decide +kernel) (by rfl) _ _ _ w) fun _ h => c99 h

/-! strconv.Itoa -/
noncomputable def s33 (x0 : Value) (w : World) : Option (Value × World) :=
  (Xcall Tryd.prog (Value.func (Fn.func 48) #[] #[]) #[x0] w).bind fun r652 =>
  some (r652.1, r652.2)
theorem s33eq (x0 : Value) (w : World) : evK Tryd.prog 33 none (bodyOf Tryd.f33) none _ { tmps := (([x0] : List Value) ++ List.replicate (5 - 1) undef).toArray, defers := [] } w (leaveK Tryd.prog Tryd.f33) = s33 x0 w := by kernel_rfl
theorem c33 {x0 : Value} {w : World} {r : Value × World} (h : s33 x0 w = some r) : C Tryd.prog 33 #[x0] w = some r :=
  C_ev follows_all drawLaw (by kernel_rfl) Tryd.func33 (by rfl) ((s33eq x0 w).trans h)
theorem e33 {x0 : Value} {w : World} {Q : Value × World → Prop} (h : Brings (s33 x0 w) Q) : Brings (Xcall Tryd.prog (Value.func (Fn.func 33) #[] #[]) #[x0] w) Q :=
  h.call (Xcall_fn Tryd.func33 (by decide +kernel) (by rfl) _ _ _ w) fun _ h => c33 h

/-! internal/strconv.Itoa -/
noncomputable def s48 (x0 : Value) (w : World) : Option (Value × World) :=
  (Xcall Tryd.prog (Value.func (Fn.func 66) #[] #[]) #[x0, (Value.int .i64 10)] w).bind fun r653 =>
  some (r653.1, r653.2)
theorem s48eq (x0 : Value) (w : World) : evK Tryd.prog 48 none (bodyOf Tryd.f48) none _ { tmps := (([x0] : List Value) ++ List.replicate (5 - 1) undef).toArray, defers := [] } w (leaveK Tryd.prog Tryd.f48) = s48 x0 w := by kernel_rfl
theorem c48 {x0 : Value} {w : World} {r : Value × World} (h : s48 x0 w = some r) : C Tryd.prog 48 #[x0] w = some r :=
  C_ev follows_all drawLaw (by kernel_rfl) Tryd.func48 (by rfl) ((s48eq x0 w).trans h)
theorem e48 {x0 : Value} {w : World} {Q : Value × World → Prop} (h : Brings (s48 x0 w) Q) : Brings (Xcall Tryd.prog (Value.func (Fn.func 48) #[] #[]) #[x0] w) Q :=
  h.call (Xcall_fn Tryd.func48 (by decide +kernel) (by rfl) _ _ _ w) fun _ h => c48 h

/-! internal/strconv.FormatInt -/
noncomputable def s66K0 : Exit → Act → World → Option (Value × World) := seqK (fun a w => evK Tryd.prog 66 none (nav [1, 1] (bodyOf Tryd.f66)) none _ a w (leaveK Tryd.prog Tryd.f66)) (leaveK Tryd.prog Tryd.f66)
noncomputable def s66K1 : Exit → Act → World → Option (Value × World) := seqK (fun a w => evK Tryd.prog 66 none (nav [1, 0, 1, 0, 1, 1, 1, 1] (bodyOf Tryd.f66)) none _ a w s66K0) s66K0
noncomputable def s66J0 (s : List Value) (d : List Deferred) (w : World) : Option (Value × World) := s66K1 .normal ⟨s.toArray, d⟩ w
noncomputable def s66M0 (s0 s5 s6 : Value) (w : World) : Option (Value × World) :=
  (Xcall Tryd.prog (Value.func (Fn.func 86) #[] #[]) #[s6] w).bind fun r668 =>
  (Qbin Tryd.prog .add 3 (Value.int .i64 1) r668.1).bind fun v669 =>
  (Qslice Tryd.prog 143 s5 (some (Value.int .i64 1)) (some v669) none r668.2).bind fun v670 =>
  (Xcall Tryd.prog (Value.func (Fn.func 87) #[] #[]) #[v670, s6] r668.2).bind fun r671 =>
  (Qbin Tryd.prog .lss 2 s0 (Value.int .i64 0)).bind fun v672 =>
  condK v672 (
    (QindexAddr Tryd.prog 143 s5 (Value.int .i64 0) r671.2).bind fun v673 =>
    (Xstore Tryd.prog 5 v673 (Value.int .u8 45) r671.2).bind fun r674 =>
    (Qbin Tryd.prog .add 3 (Value.int .i64 1) r668.1).bind fun v675 =>
    (Qslice Tryd.prog 143 s5 none (some v675) none r674.2).bind fun v676 =>
    (Xconv Tryd.prog 22 9 v676 r674.2).bind fun r677 =>
    some (r677.1, r677.2)
  ) (
    (Qbin Tryd.prog .add 3 (Value.int .i64 1) r668.1).bind fun v678 =>
    (Qslice Tryd.prog 143 s5 (some (Value.int .i64 1)) (some v678) none r671.2).bind fun v679 =>
    (Xconv Tryd.prog 22 9 v679 r671.2).bind fun r680 =>
    some (r680.1, r680.2)
  )
noncomputable def s66raw (x0 x1 : Value) (w : World) : Option (Value × World) :=
  (Qbin Tryd.prog .eql 3 x1 (Value.int .i64 10)).bind fun v654 =>
  condK v654 (
    (Qbin Tryd.prog .leq 2 (Value.int .i64 0) x0).bind fun v655 =>
    (guardQ v655 true (Qbin Tryd.prog .lss 2 (gv (isB v655 true) x0) (Value.int .i64 100))).bind fun v656 =>
    (Qpick v655 v656 (Value.bool false)).bind fun v657 =>
    condK v657 (
      (Xcall Tryd.prog (Value.func (Fn.func 85) #[] #[]) #[x0] w).bind fun r658 =>
      some (r658.1, r658.2)
    ) (
      (Xalloc Tryd.prog 143 w).bind fun r659 =>
      (Qconv Tryd.prog 2 63 x0).bind fun v660 =>
      (Qbin Tryd.prog .lss 2 x0 (Value.int .i64 0)).bind fun v661 =>
      condK v661 (
        (Qun .neg v660).bind fun v662 =>
        s66J0 [x0, x1, undef, undef, (Value.string { data := #[] }), r659.1, v662, undef, undef, undef, x1, v654, x0, v655, v655, (gv (isB v655 true) x0), v656, v657, undef, undef, x0, v660, x0, v661, v660, v662, undef, undef, undef, undef, undef, undef, undef, undef, undef, undef, undef, undef, undef, undef, undef, undef, undef, undef, undef, undef, undef, undef, undef, undef, undef, undef, undef, undef] [] r659.2
      ) (
        s66J0 [x0, x1, undef, undef, (Value.string { data := #[] }), r659.1, v660, undef, undef, undef, x1, v654, x0, v655, v655, (gv (isB v655 true) x0), v656, v657, undef, undef, x0, v660, x0, v661, undef, undef, undef, undef, undef, undef, undef, undef, undef, undef, undef, undef, undef, undef, undef, undef, undef, undef, undef, undef, undef, undef, undef, undef, undef, undef, undef, undef, undef, undef] [] r659.2
      )
    )
  ) (
    (Qconv Tryd.prog 2 63 x0).bind fun v663 =>
    (Qbin Tryd.prog .lss 2 x0 (Value.int .i64 0)).bind fun v664 =>
    (Xcall Tryd.prog (Value.func (Fn.func 88) #[] #[]) #[(Value.slice none 0 0), v663, x1, v664, (Value.bool false)] w).bind fun r665 =>
    (Qext r665.1 0).bind fun _ =>
    (Qext r665.1 1).bind fun v667 =>
    some (v667, r665.2)
  )
noncomputable def s66 (x0 x1 : Value) (w : World) : Option (Value × World) :=
  (Qbin Tryd.prog .eql 3 x1 (Value.int .i64 10)).bind fun v654 =>
  condK v654 (
    (Qbin Tryd.prog .leq 2 (Value.int .i64 0) x0).bind fun v655 =>
    (guardQ v655 true (Qbin Tryd.prog .lss 2 (gv (isB v655 true) x0) (Value.int .i64 100))).bind fun v656 =>
    (Qpick v655 v656 (Value.bool false)).bind fun v657 =>
    condK v657 (
      (Xcall Tryd.prog (Value.func (Fn.func 85) #[] #[]) #[x0] w).bind fun r658 =>
      some (r658.1, r658.2)
    ) (
      (Xalloc Tryd.prog 143 w).bind fun r659 =>
      (Qconv Tryd.prog 2 63 x0).bind fun v660 =>
      (Qbin Tryd.prog .lss 2 x0 (Value.int .i64 0)).bind fun v661 =>
      condK v661 (
        (Qun .neg v660).bind fun v662 =>
        s66M0 x0 r659.1 v662 r659.2
      ) (
        s66M0 x0 r659.1 v660 r659.2
      )
    )
  ) (
    (Qconv Tryd.prog 2 63 x0).bind fun v663 =>
    (Qbin Tryd.prog .lss 2 x0 (Value.int .i64 0)).bind fun v664 =>
    (Xcall Tryd.prog (Value.func (Fn.func 88) #[] #[]) #[(Value.slice none 0 0), v663, x1, v664, (Value.bool false)] w).bind fun r665 =>
    (Qext r665.1 0).bind fun _ =>
    (Qext r665.1 1).bind fun v667 =>
    some (v667, r665.2)
  )
theorem s66J0eq (w : World) : s66J0 [aA,aB,aC,aD,aE,aF,aG,aH,aI,aJ,aK,aL,aM,aN,aO,aP,aQ,aR,aS,aT,aU,aV,aW,aX,aY,aZ,bA,bB,bC,bD,bE,bF,bG,bH,bI,bJ,bK,bL,bM,bN,bO,bP,bQ,bR,bS,bT,bU,bV,bW,bX,bY,bZ,cA,cB] [] w = s66M0 aA aF aG w := (show _ = evK Tryd.prog 66 none (nav [1, 0, 1, 0, 1, 1, 1, 1] (bodyOf Tryd.f66)) none _ ⟨[aA,aB,aC,aD,aE,aF,aG,aH,aI,aJ,aK,aL,aM,aN,aO,aP,aQ,aR,aS,aT,aU,aV,aW,aX,aY,aZ,bA,bB,bC,bD,bE,bF,bG,bH,bI,bJ,bK,bL,bM,bN,bO,bP,bQ,bR,bS,bT,bU,bV,bW,bX,bY,bZ,cA,cB].toArray, []⟩ w s66K0 from by kernel_rfl).trans (by kernel_rfl)
theorem s66J0of {w : World} {r : _} (h : s66M0 aA aF aG w = some r) : s66J0 [aA,aB,aC,aD,aE,aF,aG,aH,aI,aJ,aK,aL,aM,aN,aO,aP,aQ,aR,aS,aT,aU,aV,aW,aX,aY,aZ,bA,bB,bC,bD,bE,bF,bG,bH,bI,bJ,bK,bL,bM,bN,bO,bP,bQ,bR,bS,bT,bU,bV,bW,bX,bY,bZ,cA,cB] [] w = some r :=
  ((s66J0eq w).trans h)
theorem s66eq (x0 x1 : Value) (w : World) : evK Tryd.prog 66 none (bodyOf Tryd.f66) none _ { tmps := (([x0, x1] : List Value) ++ List.replicate (54 - 2) undef).toArray, defers := [] } w (leaveK Tryd.prog Tryd.f66) = s66raw x0 x1 w := by kernel_rfl
theorem c66 {x0 x1 : Value} {w : World} {r : Value × World} (h : s66 x0 x1 w = some r) : C Tryd.prog 66 #[x0, x1] w = some r :=
  C_ev follows_all drawLaw (by kernel_rfl) Tryd.func66 (by rfl) ((s66eq x0 x1 w).trans (show s66raw x0 x1 w = some r from (Ev.bind_mono fun (_ : Value) => (condK_mono (Ev.bind_mono fun (_ : Value) => (Ev.bind_mono fun (_ : Value) => (Ev.bind_mono fun (_ : Value) => (condK_mono id (Ev.bind_mono fun (_ : Value × World) => (Ev.bind_mono fun (_ : Value) => (Ev.bind_mono fun (_ : Value) => (condK_mono (Ev.bind_mono fun (_ : Value) => (s66J0of)) (s66J0of))))))))) id)) h))
theorem e66 {x0 x1 : Value} {w : World} {Q : Value × World → Prop} (h : Brings (s66 x0 x1 w) Q) : Brings (Xcall Tryd.prog (Value.func (Fn.func 66) #[] #[]) #[x0, x1] w) Q :=
  h.call (Xcall_fn Tryd.func66 (by decide +kernel) (by rfl) _ _ _ w) fun _ h => c66 h

/-! internal/strconv.small -/
noncomputable def s85 (x0 : Value) (w : World) : Option (Value × World) :=
  (Qbin Tryd.prog .lss 3 x0 (Value.int .i64 10)).bind fun v681 =>
  condK v681 (
    (Qbin Tryd.prog .add 3 x0 (Value.int .i64 1)).bind fun v682 =>
    (Qslice Tryd.prog 9 (Value.string { data := #[48, 49, 50, 51, 52, 53, 54, 55, 56, 57, 97, 98, 99, 100, 101, 102, 103, 104, 105, 106, 107, 108, 109, 110, 111, 112, 113, 114, 115, 116, 117, 118, 119, 120, 121, 122] }) (some x0) (some v682) none w).bind fun v683 =>
    some (v683, w)
  ) (
    (Qbin Tryd.prog .mul 3 x0 (Value.int .i64 2)).bind fun v684 =>
    (Qbin Tryd.prog .mul 3 x0 (Value.int .i64 2)).bind fun v685 =>
    (Qbin Tryd.prog .add 3 v685 (Value.int .i64 2)).bind fun v686 =>
    (Qslice Tryd.prog 9 (Value.string bs22870f) (some v684) (some v686) none w).bind fun v687 =>
    some (v687, w)
  )
theorem s85eq (x0 : Value) (w : World) : evK Tryd.prog 85 none (bodyOf Tryd.f85) none _ { tmps := (([x0] : List Value) ++ List.replicate (15 - 1) undef).toArray, defers := [] } w (leaveK Tryd.prog Tryd.f85) = s85 x0 w := by kernel_rfl
theorem c85 {x0 : Value} {w : World} {r : Value × World} (h : s85 x0 w = some r) : C Tryd.prog 85 #[x0] w = some r :=
  C_ev follows_all drawLaw (by kernel_rfl) Tryd.func85 (by rfl) ((s85eq x0 w).trans h)
theorem e85 {x0 : Value} {w : World} {Q : Value × World → Prop} (h : Brings (s85 x0 w) Q) : Brings (Xcall Tryd.prog (Value.func (Fn.func 85) #[] #[]) #[x0] w) Q :=
  h.call (Xcall_fn Tryd.func85 (by decide +kernel) (by rfl) _ _ _ w) fun _ h => c85 h

/-! internal/strconv.numDigits -/
noncomputable def s86 (x0 : Value) (w : World) : Option (Value × World) :=
  (Xcall Tryd.prog (Value.func (Fn.func 101) #[] #[]) #[x0] w).bind fun r688 =>
  (Xcall Tryd.prog (Value.func (Fn.func 100) #[] #[]) #[r688.1] r688.2).bind fun r689 =>
  (QindexAddr Tryd.prog 167 (Value.pointer (some ⟨5, 0, none⟩)) r689.1 r689.2).bind fun v690 =>
  (Qload Tryd.prog 63 v690 r689.2).bind fun v691 =>
  (Qbin Tryd.prog .geq 63 x0 v691).bind fun v692 =>
  (Xcall Tryd.prog (Value.func (Fn.func 102) #[] #[]) #[v692] r689.2).bind fun r693 =>
  (Qbin Tryd.prog .add 3 r689.1 r693.1).bind fun v694 =>
  some (v694, r693.2)
theorem s86eq (x0 : Value) (w : World) : evK Tryd.prog 86 none (bodyOf Tryd.f86) none _ { tmps := (([x0] : List Value) ++ List.replicate (15 - 1) undef).toArray, defers := [] } w (leaveK Tryd.prog Tryd.f86) = s86 x0 w := by kernel_rfl
theorem c86 {x0 : Value} {w : World} {r : Value × World} (h : s86 x0 w = some r) : C Tryd.prog 86 #[x0] w = some r :=
  C_ev follows_all drawLaw (by kernel_rfl) Tryd.func86 (by rfl) ((s86eq x0 w).trans h)
theorem e86 {x0 : Value} {w : World} {Q : Value × World → Prop} (h : Brings (s86 x0 w) Q) : Brings (Xcall Tryd.prog (Value.func (Fn.func 86) #[] #[]) #[x0] w) Q :=
  h.call (Xcall_fn Tryd.func86 (by decide +kernel) (by rfl) _ _ _ w) fun _ h => c86 h

end Go.Proofs.YtphokckbcmiddaaDoor
