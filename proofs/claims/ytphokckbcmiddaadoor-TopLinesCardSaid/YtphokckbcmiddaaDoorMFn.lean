/- The functions of the program, by their texts. -/
import Derived.Test.YtphokckbcmiddaaDoorMFn2
namespace Go.Proofs.YtphokckbcmiddaaDoor
open Go Go.Ev
open Go.Proofs
def bs0e021f : ByteArray := ⟨(List.toArray (List.append (List.append [0, 1, 2, 2, 3, 3, 3, 3, 4, 4, 4, 4, 4, 4, 4, 4, 5, 5, 5, 5, 5, 5, 5, 5, 5, 5, 5, 5, 5, 5, 5, 5, 6, 6, 6, 6, 6, 6, 6, 6, 6, 6, 6, 6, 6, 6, 6, 6, 6, 6, 6, 6, 6, 6, 6, 6, 6, 6, 6, 6, 6, 6, 6, 6] [7, 7, 7, 7, 7, 7, 7, 7, 7, 7, 7, 7, 7, 7, 7, 7, 7, 7, 7, 7, 7, 7, 7, 7, 7, 7, 7, 7, 7, 7, 7, 7, 7, 7, 7, 7, 7, 7, 7, 7, 7, 7, 7, 7, 7, 7, 7, 7, 7, 7, 7, 7, 7, 7, 7, 7, 7, 7, 7, 7, 7, 7, 7, 7]) (List.append [8, 8, 8, 8, 8, 8, 8, 8, 8, 8, 8, 8, 8, 8, 8, 8, 8, 8, 8, 8, 8, 8, 8, 8, 8, 8, 8, 8, 8, 8, 8, 8, 8, 8, 8, 8, 8, 8, 8, 8, 8, 8, 8, 8, 8, 8, 8, 8, 8, 8, 8, 8, 8, 8, 8, 8, 8, 8, 8, 8, 8, 8, 8, 8] [8, 8, 8, 8, 8, 8, 8, 8, 8, 8, 8, 8, 8, 8, 8, 8, 8, 8, 8, 8, 8, 8, 8, 8, 8, 8, 8, 8, 8, 8, 8, 8, 8, 8, 8, 8, 8, 8, 8, 8, 8, 8, 8, 8, 8, 8, 8, 8, 8, 8, 8, 8, 8, 8, 8, 8, 8, 8, 8, 8, 8, 8, 8, 8])))⟩
variable {aA aB aC aD aE aF aG aH aI aJ aK aL aM aN aO aP aQ aR aS aT aU aV aW aX aY aZ bA bB bC bD bE bF bG bH bI bJ bK bL bM bN bO bP bQ bR bS bT bU bV bW bX bY bZ cA cB cC cD cE cF cG cH cI cJ cK cL cM cN cO cP cQ cR cS cT cU cV cW cX cY cZ dA dB dC dD dE dF dG dH dI dJ dK dL dM dN dO dP dQ dR dS dT dU dV dW dX dY dZ eA eB eC eD eE eF eG eH eI eJ eK eL eM eN eO eP eQ eR eS eT eU eV eW eX eY eZ fA fB fC fD fE fF fG fH fI fJ fK fL fM fN fO fP fQ fR fS fT fU fV fW fX fY fZ gA gB gC gD gE gF gG gH gI gJ gK : Value}
/-! internal/strconv.formatBase10 -/
noncomputable def s87K0 : Exit → Act → World → Option (Value × World) := seqK (fun a w => evK Tryd.prog 87 none (nav [1, 1] (bodyOf Tryd.f87)) none _ a w (leaveK Tryd.prog Tryd.f87)) (leaveK Tryd.prog Tryd.f87)
noncomputable def s87K1 : Exit → Act → World → Option (Value × World) := blockK 0 s87K0
noncomputable def s87L0 (s : List Value) (d : List Deferred) (w : World) : Option (Value × World) := loopN Tryd.prog 87 none (nav [1, 0, 0, 0] (bodyOf Tryd.f87)) s87K1 s d w
noncomputable def s87K2 : Exit → Act → World → Option (Value × World) := seqK (fun a w => evK Tryd.prog 87 none (nav [1, 1, 1, 1] (bodyOf Tryd.f87)) none _ a w (leaveK Tryd.prog Tryd.f87)) (leaveK Tryd.prog Tryd.f87)
noncomputable def s87J1 (s : List Value) (d : List Deferred) (w : World) : Option (Value × World) := s87K2 .normal ⟨s.toArray, d⟩ w
noncomputable def s87K3 : Exit → Act → World → Option (Value × World) := seqK (fun a w => evK Tryd.prog 87 none (nav [1, 1, 1, 1, 1] (bodyOf Tryd.f87)) none _ a w (leaveK Tryd.prog Tryd.f87)) (leaveK Tryd.prog Tryd.f87)
noncomputable def s87J2 (s : List Value) (d : List Deferred) (w : World) : Option (Value × World) := s87K3 .normal ⟨s.toArray, d⟩ w
noncomputable def s87M2 (s0 s4 s12 : Value) (w : World) : Option (Value × World) :=
  (Qbin Tryd.prog .gtr 3 s4 (Value.int .i64 0)).bind fun v788 =>
  condK v788 (
    (Qbin Tryd.prog .add 24 (Value.int .u32 48) s12).bind fun v789 =>
    (Qconv Tryd.prog 24 5 v789).bind fun v790 =>
    (QindexAddr Tryd.prog 22 s0 (Value.int .i64 0) w).bind fun v791 =>
    (Xstore Tryd.prog 5 v791 v790 w).bind fun r792 =>
    some ((Value.tuple #[]), r792.2)
  ) (
    some ((Value.tuple #[]), w)
  )
noncomputable def s87M1raw (aA aB aC aD aE aF aG aH aI aJ aK aL aM aN aO aP aQ aR aS aT aU aV aW aX aY aZ bA bB bC bD bE bF bG bH bI bJ bK bL bM bN bO bP bQ bR bS bT bU bV bW bX bY bZ cA cB cC cD cE cF cG cH cI cJ cK cL cM cN cO cP cQ cR cS cT cU cV cW cX cY cZ dA dB dC dD dE dF dG dH dI dJ dK dL dM dN dO dP dQ dR dS dT dU dV dW dX dY dZ eA eB eC eD eE eF eG eH eI eJ eK eL eM eN eO eP eQ eR eS eT eU eV eW eX eY eZ fA fB fC fD fE fF fG fH _ _ fK fL fM fN fO fP fQ fR fS fT fU fV fW fX fY fZ gA gB gC gD gE gF gG gH gI gJ gK : Value) (w : World) : Option (Value × World) :=
  (Qbin Tryd.prog .geq 3 aE (Value.int .i64 2)).bind fun v774 =>
  condK v774 (
    (Qbin Tryd.prog .rem 24 aM (Value.int .u32 100)).bind fun v775 =>
    (Qbin Tryd.prog .mul 24 v775 (Value.int .u32 2)).bind fun v776 =>
    (Qbin Tryd.prog .quo 24 aM (Value.int .u32 100)).bind fun v777 =>
    (Qbin Tryd.prog .sub 3 aE (Value.int .i64 1)).bind fun v778 =>
    (Qbin Tryd.prog .sub 3 aE (Value.int .i64 2)).bind fun v779 =>
    (Qbin Tryd.prog .add 24 v776 (Value.int .u32 1)).bind fun v780 =>
    (Qindex Tryd.prog 9 (Value.string bs22870f) v780 w.drew).bind fun v781 =>
    (Qindex Tryd.prog 9 (Value.string bs22870f) v776 w.drew).bind fun v782 =>
    (QindexAddr Tryd.prog 22 aA v778 w.drew).bind fun v783 =>
    (Xstore Tryd.prog 5 v783 v781 w.drew).bind fun r784 =>
    (QindexAddr Tryd.prog 22 aA v779 r784.2).bind fun v785 =>
    (Xstore Tryd.prog 5 v785 v782 r784.2).bind fun r786 =>
    chkK ((Qindex Tryd.prog 9 (Value.string bs22870f) v776 w.drew = some v782 ∧ Qindex Tryd.prog 9 (Value.string bs22870f) v776 r784.2 = some v782) ∧ True) (
      (Qbin Tryd.prog .sub 3 aE (Value.int .i64 2)).bind fun v787 =>
      s87J2 [aA,aB,aC,aD, v787, aF,aG,aH,aI,aJ,aK,aL, v777, aN,aO,aP, v776, aR,aS,aT,aU,aV,aW,aX,aY,aZ,bA,bB,bC,bD,bE,bF,bG,bH,bI,bJ,bK,bL,bM,bN,bO,bP,bQ,bR,bS,bT,bU,bV,bW,bX,bY,bZ,cA,cB,cC,cD,cE,cF,cG,cH,cI,cJ,cK,cL,cM,cN,cO,cP,cQ,cR,cS,cT,cU,cV,cW,cX,cY,cZ,dA,dB,dC,dD,dE,dF,dG,dH,dI,dJ,dK,dL,dM,dN,dO,dP,dQ,dR,dS,dT,dU,dV,dW,dX,dY,dZ,eA,eB,eC,eD,eE,eF,eG,eH,eI,eJ,eK,eL,eM,eN,eO,eP,eQ,eR,eS,eT,eU,eV,eW,eX,eY,eZ,fA,fB,fC,fD,fE,fF,fG,fH,aE, v774, aM, v775, v776, aM, v777, aA,aE, v778, aA,aE, v779, v776, v780, v781, v776, v782, v783, v785, aE, v787, gE,gF,gG,gH,gI,gJ,gK] [] r786.2
    )
  ) (
    s87J2 [aA,aB,aC,aD,aE,aF,aG,aH,aI,aJ,aK,aL,aM,aN,aO,aP,aQ,aR,aS,aT,aU,aV,aW,aX,aY,aZ,bA,bB,bC,bD,bE,bF,bG,bH,bI,bJ,bK,bL,bM,bN,bO,bP,bQ,bR,bS,bT,bU,bV,bW,bX,bY,bZ,cA,cB,cC,cD,cE,cF,cG,cH,cI,cJ,cK,cL,cM,cN,cO,cP,cQ,cR,cS,cT,cU,cV,cW,cX,cY,cZ,dA,dB,dC,dD,dE,dF,dG,dH,dI,dJ,dK,dL,dM,dN,dO,dP,dQ,dR,dS,dT,dU,dV,dW,dX,dY,dZ,eA,eB,eC,eD,eE,eF,eG,eH,eI,eJ,eK,eL,eM,eN,eO,eP,eQ,eR,eS,eT,eU,eV,eW,eX,eY,eZ,fA,fB,fC,fD,fE,fF,fG,fH,aE, v774, fK,fL,fM,fN,fO,fP,fQ,fR,fS,fT,fU,fV,fW,fX,fY,fZ,gA,gB,gC,gD,gE,gF,gG,gH,gI,gJ,gK] [] w
  )
noncomputable def s87M1 (s0 s4 s12 : Value) (w : World) : Option (Value × World) :=
  (Qbin Tryd.prog .geq 3 s4 (Value.int .i64 2)).bind fun v774 =>
  condK v774 (
    (Qbin Tryd.prog .rem 24 s12 (Value.int .u32 100)).bind fun v775 =>
    (Qbin Tryd.prog .mul 24 v775 (Value.int .u32 2)).bind fun v776 =>
    (Qbin Tryd.prog .quo 24 s12 (Value.int .u32 100)).bind fun v777 =>
    (Qbin Tryd.prog .sub 3 s4 (Value.int .i64 1)).bind fun v778 =>
    (Qbin Tryd.prog .sub 3 s4 (Value.int .i64 2)).bind fun v779 =>
    (Qbin Tryd.prog .add 24 v776 (Value.int .u32 1)).bind fun v780 =>
    (Qindex Tryd.prog 9 (Value.string bs22870f) v780 w.drew).bind fun v781 =>
    (Qindex Tryd.prog 9 (Value.string bs22870f) v776 w.drew).bind fun v782 =>
    (QindexAddr Tryd.prog 22 s0 v778 w.drew).bind fun v783 =>
    (Xstore Tryd.prog 5 v783 v781 w.drew).bind fun r784 =>
    (QindexAddr Tryd.prog 22 s0 v779 r784.2).bind fun v785 =>
    (Xstore Tryd.prog 5 v785 v782 r784.2).bind fun r786 =>
    chkK ((Qindex Tryd.prog 9 (Value.string bs22870f) v776 w.drew = some v782 ∧ Qindex Tryd.prog 9 (Value.string bs22870f) v776 r784.2 = some v782) ∧ True) (
      (Qbin Tryd.prog .sub 3 s4 (Value.int .i64 2)).bind fun v787 =>
      s87M2 s0 v787 v777 r786.2
    )
  ) (
    s87M2 s0 s4 s12 w
  )
noncomputable def s87B0 : List Value → World → Option (Exit × List Value × World)
  | [x0, x1, x4], w =>
    (Qbin Tryd.prog .geq 3 x4 (Value.int .i64 8)).bind fun v696 =>
    condK v696 (
      (Qbin Tryd.prog .rem 63 x1 (Value.int .u64 100000000)).bind fun v697 =>
      (Qconv Tryd.prog 63 24 v697).bind fun v698 =>
      (Qbin Tryd.prog .quo 63 x1 (Value.int .u64 100000000)).bind fun v699 =>
      (Qbin Tryd.prog .quo 24 v698 (Value.int .u32 10000)).bind fun v700 =>
      (Qbin Tryd.prog .rem 24 v698 (Value.int .u32 10000)).bind fun v701 =>
      (Qbin Tryd.prog .quo 24 v701 (Value.int .u32 100)).bind fun v702 =>
      (Qbin Tryd.prog .mul 24 v702 (Value.int .u32 2)).bind fun v703 =>
      (Qbin Tryd.prog .rem 24 v701 (Value.int .u32 100)).bind fun v704 =>
      (Qbin Tryd.prog .mul 24 v704 (Value.int .u32 2)).bind fun v705 =>
      (Qbin Tryd.prog .quo 24 v700 (Value.int .u32 100)).bind fun v706 =>
      (Qbin Tryd.prog .mul 24 v706 (Value.int .u32 2)).bind fun v707 =>
      (Qbin Tryd.prog .rem 24 v700 (Value.int .u32 100)).bind fun v708 =>
      (Qbin Tryd.prog .mul 24 v708 (Value.int .u32 2)).bind fun v709 =>
      (Qbin Tryd.prog .sub 3 x4 (Value.int .i64 1)).bind fun v710 =>
      (Qbin Tryd.prog .sub 3 x4 (Value.int .i64 2)).bind fun v711 =>
      (Qbin Tryd.prog .add 24 v705 (Value.int .u32 1)).bind fun v712 =>
      (Qindex Tryd.prog 9 (Value.string bs22870f) v712 w.drew).bind fun v713 =>
      (Qindex Tryd.prog 9 (Value.string bs22870f) v705 w.drew).bind fun v714 =>
      (QindexAddr Tryd.prog 22 x0 v710 w.drew).bind fun v715 =>
      (Xstore Tryd.prog 5 v715 v713 w.drew).bind fun r716 =>
      (QindexAddr Tryd.prog 22 x0 v711 r716.2).bind fun v717 =>
      (Xstore Tryd.prog 5 v717 v714 r716.2).bind fun r718 =>
      chkK ((Qindex Tryd.prog 9 (Value.string bs22870f) v705 w.drew = some v714 ∧ Qindex Tryd.prog 9 (Value.string bs22870f) v705 r716.2 = some v714) ∧ True) (
        (Qbin Tryd.prog .sub 3 x4 (Value.int .i64 3)).bind fun v719 =>
        (Qbin Tryd.prog .sub 3 x4 (Value.int .i64 4)).bind fun v720 =>
        (Qbin Tryd.prog .add 24 v703 (Value.int .u32 1)).bind fun v721 =>
        (Qindex Tryd.prog 9 (Value.string bs22870f) v721 r718.2.drew).bind fun v722 =>
        (Qindex Tryd.prog 9 (Value.string bs22870f) v703 r718.2.drew).bind fun v723 =>
        (QindexAddr Tryd.prog 22 x0 v719 r718.2.drew).bind fun v724 =>
        (Xstore Tryd.prog 5 v724 v722 r718.2.drew).bind fun r725 =>
        (QindexAddr Tryd.prog 22 x0 v720 r725.2).bind fun v726 =>
        (Xstore Tryd.prog 5 v726 v723 r725.2).bind fun r727 =>
        chkK ((Qindex Tryd.prog 9 (Value.string bs22870f) v703 r718.2.drew = some v723 ∧ Qindex Tryd.prog 9 (Value.string bs22870f) v703 r725.2 = some v723) ∧ True) (
          (Qbin Tryd.prog .sub 3 x4 (Value.int .i64 5)).bind fun v728 =>
          (Qbin Tryd.prog .sub 3 x4 (Value.int .i64 6)).bind fun v729 =>
          (Qbin Tryd.prog .add 24 v709 (Value.int .u32 1)).bind fun v730 =>
          (Qindex Tryd.prog 9 (Value.string bs22870f) v730 r727.2.drew).bind fun v731 =>
          (Qindex Tryd.prog 9 (Value.string bs22870f) v709 r727.2.drew).bind fun v732 =>
          (QindexAddr Tryd.prog 22 x0 v728 r727.2.drew).bind fun v733 =>
          (Xstore Tryd.prog 5 v733 v731 r727.2.drew).bind fun r734 =>
          (QindexAddr Tryd.prog 22 x0 v729 r734.2).bind fun v735 =>
          (Xstore Tryd.prog 5 v735 v732 r734.2).bind fun r736 =>
          chkK ((Qindex Tryd.prog 9 (Value.string bs22870f) v709 r727.2.drew = some v732 ∧ Qindex Tryd.prog 9 (Value.string bs22870f) v709 r734.2 = some v732) ∧ True) (
            (Qbin Tryd.prog .sub 3 x4 (Value.int .i64 7)).bind fun v737 =>
            (Qbin Tryd.prog .sub 3 x4 (Value.int .i64 8)).bind fun v738 =>
            (Qbin Tryd.prog .add 24 v707 (Value.int .u32 1)).bind fun v739 =>
            (Qindex Tryd.prog 9 (Value.string bs22870f) v739 r736.2.drew).bind fun v740 =>
            (Qindex Tryd.prog 9 (Value.string bs22870f) v707 r736.2.drew).bind fun v741 =>
            (QindexAddr Tryd.prog 22 x0 v737 r736.2.drew).bind fun v742 =>
            (Xstore Tryd.prog 5 v742 v740 r736.2.drew).bind fun r743 =>
            (QindexAddr Tryd.prog 22 x0 v738 r743.2).bind fun v744 =>
            (Xstore Tryd.prog 5 v744 v741 r743.2).bind fun r745 =>
            chkK ((Qindex Tryd.prog 9 (Value.string bs22870f) v707 r736.2.drew = some v741 ∧ Qindex Tryd.prog 9 (Value.string bs22870f) v707 r743.2 = some v741) ∧ True) (
              (Qbin Tryd.prog .sub 3 x4 (Value.int .i64 8)).bind fun v746 =>
              some (Exit.normal, [x0, v699, v746], r745.2)
            )
          )
        )
      )
    ) (
      some ((Exit.exit 0), [x0, x1, x4], w)
    )
  | _, _ => none
noncomputable def s87R0 : Exit → List Value → World → Option (Value × World)
  | (Exit.exit 0), [x0, x1, x4], w =>
    (Qconv Tryd.prog 63 24 x1).bind fun v747 =>
    (Qbin Tryd.prog .geq 3 x4 (Value.int .i64 4)).bind fun v748 =>
    condK v748 (
      (Qbin Tryd.prog .rem 24 v747 (Value.int .u32 10000)).bind fun v749 =>
      (Qbin Tryd.prog .quo 24 v747 (Value.int .u32 10000)).bind fun v750 =>
      (Qbin Tryd.prog .quo 24 v749 (Value.int .u32 100)).bind fun v751 =>
      (Qbin Tryd.prog .mul 24 v751 (Value.int .u32 2)).bind fun v752 =>
      (Qbin Tryd.prog .rem 24 v749 (Value.int .u32 100)).bind fun v753 =>
      (Qbin Tryd.prog .mul 24 v753 (Value.int .u32 2)).bind fun v754 =>
      (Qbin Tryd.prog .sub 3 x4 (Value.int .i64 1)).bind fun v755 =>
      (Qbin Tryd.prog .sub 3 x4 (Value.int .i64 2)).bind fun v756 =>
      (Qbin Tryd.prog .add 24 v754 (Value.int .u32 1)).bind fun v757 =>
      (Qindex Tryd.prog 9 (Value.string bs22870f) v757 w.drew).bind fun v758 =>
      (Qindex Tryd.prog 9 (Value.string bs22870f) v754 w.drew).bind fun v759 =>
      (QindexAddr Tryd.prog 22 x0 v755 w.drew).bind fun v760 =>
      (Xstore Tryd.prog 5 v760 v758 w.drew).bind fun r761 =>
      (QindexAddr Tryd.prog 22 x0 v756 r761.2).bind fun v762 =>
      (Xstore Tryd.prog 5 v762 v759 r761.2).bind fun r763 =>
      chkK ((Qindex Tryd.prog 9 (Value.string bs22870f) v754 w.drew = some v759 ∧ Qindex Tryd.prog 9 (Value.string bs22870f) v754 r761.2 = some v759) ∧ True) (
        (Qbin Tryd.prog .sub 3 x4 (Value.int .i64 3)).bind fun v764 =>
        (Qbin Tryd.prog .sub 3 x4 (Value.int .i64 4)).bind fun v765 =>
        (Qbin Tryd.prog .add 24 v752 (Value.int .u32 1)).bind fun v766 =>
        (Qindex Tryd.prog 9 (Value.string bs22870f) v766 r763.2.drew).bind fun v767 =>
        (Qindex Tryd.prog 9 (Value.string bs22870f) v752 r763.2.drew).bind fun v768 =>
        (QindexAddr Tryd.prog 22 x0 v764 r763.2.drew).bind fun v769 =>
        (Xstore Tryd.prog 5 v769 v767 r763.2.drew).bind fun r770 =>
        (QindexAddr Tryd.prog 22 x0 v765 r770.2).bind fun v771 =>
        (Xstore Tryd.prog 5 v771 v768 r770.2).bind fun r772 =>
        chkK ((Qindex Tryd.prog 9 (Value.string bs22870f) v752 r763.2.drew = some v768 ∧ Qindex Tryd.prog 9 (Value.string bs22870f) v752 r770.2 = some v768) ∧ True) (
          (Qbin Tryd.prog .sub 3 x4 (Value.int .i64 4)).bind fun v773 =>
          s87M1 x0 v773 v750 r772.2
        )
      )
    ) (
      s87M1 x0 x4 v747 w
    )
  | _, _, _ => none
noncomputable def s87R0x0raw (x0 x1 x4 : Value) (g : Nat → Value) (w : World) : Option (Value × World) :=
  (Qconv Tryd.prog 63 24 x1).bind fun v747 =>
  (Qbin Tryd.prog .geq 3 x4 (Value.int .i64 4)).bind fun v748 =>
  condK v748 (
    (Qbin Tryd.prog .rem 24 v747 (Value.int .u32 10000)).bind fun v749 =>
    (Qbin Tryd.prog .quo 24 v747 (Value.int .u32 10000)).bind fun v750 =>
    (Qbin Tryd.prog .quo 24 v749 (Value.int .u32 100)).bind fun v751 =>
    (Qbin Tryd.prog .mul 24 v751 (Value.int .u32 2)).bind fun v752 =>
    (Qbin Tryd.prog .rem 24 v749 (Value.int .u32 100)).bind fun v753 =>
    (Qbin Tryd.prog .mul 24 v753 (Value.int .u32 2)).bind fun v754 =>
    (Qbin Tryd.prog .sub 3 x4 (Value.int .i64 1)).bind fun v755 =>
    (Qbin Tryd.prog .sub 3 x4 (Value.int .i64 2)).bind fun v756 =>
    (Qbin Tryd.prog .add 24 v754 (Value.int .u32 1)).bind fun v757 =>
    (Qindex Tryd.prog 9 (Value.string bs22870f) v757 w.drew).bind fun v758 =>
    (Qindex Tryd.prog 9 (Value.string bs22870f) v754 w.drew).bind fun v759 =>
    (QindexAddr Tryd.prog 22 x0 v755 w.drew).bind fun v760 =>
    (Xstore Tryd.prog 5 v760 v758 w.drew).bind fun r761 =>
    (QindexAddr Tryd.prog 22 x0 v756 r761.2).bind fun v762 =>
    (Xstore Tryd.prog 5 v762 v759 r761.2).bind fun r763 =>
    chkK ((Qindex Tryd.prog 9 (Value.string bs22870f) v754 w.drew = some v759 ∧ Qindex Tryd.prog 9 (Value.string bs22870f) v754 r761.2 = some v759) ∧ True) (
      (Qbin Tryd.prog .sub 3 x4 (Value.int .i64 3)).bind fun v764 =>
      (Qbin Tryd.prog .sub 3 x4 (Value.int .i64 4)).bind fun v765 =>
      (Qbin Tryd.prog .add 24 v752 (Value.int .u32 1)).bind fun v766 =>
      (Qindex Tryd.prog 9 (Value.string bs22870f) v766 r763.2.drew).bind fun v767 =>
      (Qindex Tryd.prog 9 (Value.string bs22870f) v752 r763.2.drew).bind fun v768 =>
      (QindexAddr Tryd.prog 22 x0 v764 r763.2.drew).bind fun v769 =>
      (Xstore Tryd.prog 5 v769 v767 r763.2.drew).bind fun r770 =>
      (QindexAddr Tryd.prog 22 x0 v765 r770.2).bind fun v771 =>
      (Xstore Tryd.prog 5 v771 v768 r770.2).bind fun r772 =>
      chkK ((Qindex Tryd.prog 9 (Value.string bs22870f) v752 r763.2.drew = some v768 ∧ Qindex Tryd.prog 9 (Value.string bs22870f) v752 r770.2 = some v768) ∧ True) (
        (Qbin Tryd.prog .sub 3 x4 (Value.int .i64 4)).bind fun v773 =>
        s87J1 [x0, x1, g 2,g 3, v773, g 5,g 6,g 7,g 8,g 9,g 10,g 11, v750, v749, v752, v754, g 16,g 17,g 18,g 19,g 20,g 21,g 22,g 23,g 24,g 25,g 26,g 27,g 28,g 29,g 30,g 31,g 32,g 33,g 34,g 35,g 36,g 37,g 38,g 39,g 40,g 41,g 42,g 43,g 44,g 45,g 46,g 47,g 48,g 49,g 50,g 51,g 52,g 53,g 54,g 55,g 56,g 57,g 58,g 59,g 60,g 61,g 62,g 63,g 64,g 65,g 66,g 67,g 68,g 69,g 70,g 71,g 72,g 73,g 74,g 75,g 76,g 77,g 78,g 79,g 80,g 81,g 82,g 83,g 84,g 85,g 86,g 87,g 88,g 89,g 90,g 91,g 92,g 93,g 94,g 95, x1, v747, x4, v748, v747, v749, v747, v750, v749, v751, v752, v749, v753, v754, x0, x4, v755, x0, x4, v756, v754, v757, v758, v754, v759, v760, v762, x0, x4, v764, x0, x4, v765, v752, v766, v767, v752, v768, v769, v771, x4, v773, g 138,g 139,g 140,g 141,g 142,g 143,g 144,g 145,g 146,g 147,g 148,g 149,g 150,g 151,g 152,g 153,g 154,g 155,g 156,g 157,g 158,g 159,g 160,g 161,g 162,g 163,g 164,g 165,g 166] [] r772.2
      )
    )
  ) (
    s87J1 [x0, x1, g 2,g 3, x4, g 5,g 6,g 7,g 8,g 9,g 10,g 11, v747, g 13,g 14,g 15,g 16,g 17,g 18,g 19,g 20,g 21,g 22,g 23,g 24,g 25,g 26,g 27,g 28,g 29,g 30,g 31,g 32,g 33,g 34,g 35,g 36,g 37,g 38,g 39,g 40,g 41,g 42,g 43,g 44,g 45,g 46,g 47,g 48,g 49,g 50,g 51,g 52,g 53,g 54,g 55,g 56,g 57,g 58,g 59,g 60,g 61,g 62,g 63,g 64,g 65,g 66,g 67,g 68,g 69,g 70,g 71,g 72,g 73,g 74,g 75,g 76,g 77,g 78,g 79,g 80,g 81,g 82,g 83,g 84,g 85,g 86,g 87,g 88,g 89,g 90,g 91,g 92,g 93,g 94,g 95, x1, v747, x4, v748, g 100,g 101,g 102,g 103,g 104,g 105,g 106,g 107,g 108,g 109,g 110,g 111,g 112,g 113,g 114,g 115,g 116,g 117,g 118,g 119,g 120,g 121,g 122,g 123,g 124,g 125,g 126,g 127,g 128,g 129,g 130,g 131,g 132,g 133,g 134,g 135,g 136,g 137,g 138,g 139,g 140,g 141,g 142,g 143,g 144,g 145,g 146,g 147,g 148,g 149,g 150,g 151,g 152,g 153,g 154,g 155,g 156,g 157,g 158,g 159,g 160,g 161,g 162,g 163,g 164,g 165,g 166] [] w
  )
noncomputable def s87raw (x0 x1 : Value) (w : World) : Option (Value × World) :=
  (Qlen Tryd.prog #[22] 3 #[x0] w).bind fun v695 =>
  s87L0 [x0, x1, undef, undef, v695, undef, undef, undef, undef, undef, undef, undef, undef, undef, undef, undef, undef, x0, v695, undef, undef, undef, undef, undef, undef, undef, undef, undef, undef, undef, undef, undef, undef, undef, undef, undef, undef, undef, undef, undef, undef, undef, undef, undef, undef, undef, undef, undef, undef, undef, undef, undef, undef, undef, undef, undef, undef, undef, undef, undef, undef, undef, undef, undef, undef, undef, undef, undef, undef, undef, undef, undef, undef, undef, undef, undef, undef, undef, undef, undef, undef, undef, undef, undef, undef, undef, undef, undef, undef, undef, undef, undef, undef, undef, undef, undef, undef, undef, undef, undef, undef, undef, undef, undef, undef, undef, undef, undef, undef, undef, undef, undef, undef, undef, undef, undef, undef, undef, undef, undef, undef, undef, undef, undef, undef, undef, undef, undef, undef, undef, undef, undef, undef, undef, undef, undef, undef, undef, undef, undef, undef, undef, undef, undef, undef, undef, undef, undef, undef, undef, undef, undef, undef, undef, undef, undef, undef, undef, undef, undef, undef, undef, undef, undef, undef, undef, undef] [] w
noncomputable def s87 (x0 x1 : Value) (w : World) : Option (Value × World) :=
  (Qlen Tryd.prog #[22] 3 #[x0] w).bind fun v695 =>
  loopR s87B0 s87R0 [x0, x1, v695] w
set_option maxRecDepth 100000 in
theorem s87J2eq (w : World) : s87J2 [aA,aB,aC,aD,aE,aF,aG,aH,aI,aJ,aK,aL,aM,aN,aO,aP,aQ,aR,aS,aT,aU,aV,aW,aX,aY,aZ,bA,bB,bC,bD,bE,bF,bG,bH,bI,bJ,bK,bL,bM,bN,bO,bP,bQ,bR,bS,bT,bU,bV,bW,bX,bY,bZ,cA,cB,cC,cD,cE,cF,cG,cH,cI,cJ,cK,cL,cM,cN,cO,cP,cQ,cR,cS,cT,cU,cV,cW,cX,cY,cZ,dA,dB,dC,dD,dE,dF,dG,dH,dI,dJ,dK,dL,dM,dN,dO,dP,dQ,dR,dS,dT,dU,dV,dW,dX,dY,dZ,eA,eB,eC,eD,eE,eF,eG,eH,eI,eJ,eK,eL,eM,eN,eO,eP,eQ,eR,eS,eT,eU,eV,eW,eX,eY,eZ,fA,fB,fC,fD,fE,fF,fG,fH,fI,fJ,fK,fL,fM,fN,fO,fP,fQ,fR,fS,fT,fU,fV,fW,fX,fY,fZ,gA,gB,gC,gD,gE,gF,gG,gH,gI,gJ,gK] [] w = s87M2 aA aE aM w := (show _ = evK Tryd.prog 87 none (nav [1, 1, 1, 1, 1] (bodyOf Tryd.f87)) none _ ⟨[aA,aB,aC,aD,aE,aF,aG,aH,aI,aJ,aK,aL,aM,aN,aO,aP,aQ,aR,aS,aT,aU,aV,aW,aX,aY,aZ,bA,bB,bC,bD,bE,bF,bG,bH,bI,bJ,bK,bL,bM,bN,bO,bP,bQ,bR,bS,bT,bU,bV,bW,bX,bY,bZ,cA,cB,cC,cD,cE,cF,cG,cH,cI,cJ,cK,cL,cM,cN,cO,cP,cQ,cR,cS,cT,cU,cV,cW,cX,cY,cZ,dA,dB,dC,dD,dE,dF,dG,dH,dI,dJ,dK,dL,dM,dN,dO,dP,dQ,dR,dS,dT,dU,dV,dW,dX,dY,dZ,eA,eB,eC,eD,eE,eF,eG,eH,eI,eJ,eK,eL,eM,eN,eO,eP,eQ,eR,eS,eT,eU,eV,eW,eX,eY,eZ,fA,fB,fC,fD,fE,fF,fG,fH,fI,fJ,fK,fL,fM,fN,fO,fP,fQ,fR,fS,fT,fU,fV,fW,fX,fY,fZ,gA,gB,gC,gD,gE,gF,gG,gH,gI,gJ,gK].toArray, []⟩ w (leaveK Tryd.prog Tryd.f87) from by kernel_rfl).trans (by kernel_rfl)
set_option maxRecDepth 100000 in
theorem s87J2of {w : World} {r : _} (h : s87M2 aA aE aM w = some r) : s87J2 [aA,aB,aC,aD,aE,aF,aG,aH,aI,aJ,aK,aL,aM,aN,aO,aP,aQ,aR,aS,aT,aU,aV,aW,aX,aY,aZ,bA,bB,bC,bD,bE,bF,bG,bH,bI,bJ,bK,bL,bM,bN,bO,bP,bQ,bR,bS,bT,bU,bV,bW,bX,bY,bZ,cA,cB,cC,cD,cE,cF,cG,cH,cI,cJ,cK,cL,cM,cN,cO,cP,cQ,cR,cS,cT,cU,cV,cW,cX,cY,cZ,dA,dB,dC,dD,dE,dF,dG,dH,dI,dJ,dK,dL,dM,dN,dO,dP,dQ,dR,dS,dT,dU,dV,dW,dX,dY,dZ,eA,eB,eC,eD,eE,eF,eG,eH,eI,eJ,eK,eL,eM,eN,eO,eP,eQ,eR,eS,eT,eU,eV,eW,eX,eY,eZ,fA,fB,fC,fD,fE,fF,fG,fH,fI,fJ,fK,fL,fM,fN,fO,fP,fQ,fR,fS,fT,fU,fV,fW,fX,fY,fZ,gA,gB,gC,gD,gE,gF,gG,gH,gI,gJ,gK] [] w = some r :=
  ((s87J2eq w).trans h)
set_option maxRecDepth 100000 in
theorem s87J1eq (w : World) : s87J1 [aA,aB,aC,aD,aE,aF,aG,aH,aI,aJ,aK,aL,aM,aN,aO,aP,aQ,aR,aS,aT,aU,aV,aW,aX,aY,aZ,bA,bB,bC,bD,bE,bF,bG,bH,bI,bJ,bK,bL,bM,bN,bO,bP,bQ,bR,bS,bT,bU,bV,bW,bX,bY,bZ,cA,cB,cC,cD,cE,cF,cG,cH,cI,cJ,cK,cL,cM,cN,cO,cP,cQ,cR,cS,cT,cU,cV,cW,cX,cY,cZ,dA,dB,dC,dD,dE,dF,dG,dH,dI,dJ,dK,dL,dM,dN,dO,dP,dQ,dR,dS,dT,dU,dV,dW,dX,dY,dZ,eA,eB,eC,eD,eE,eF,eG,eH,eI,eJ,eK,eL,eM,eN,eO,eP,eQ,eR,eS,eT,eU,eV,eW,eX,eY,eZ,fA,fB,fC,fD,fE,fF,fG,fH,fI,fJ,fK,fL,fM,fN,fO,fP,fQ,fR,fS,fT,fU,fV,fW,fX,fY,fZ,gA,gB,gC,gD,gE,gF,gG,gH,gI,gJ,gK] [] w = s87M1raw aA aB aC aD aE aF aG aH aI aJ aK aL aM aN aO aP aQ aR aS aT aU aV aW aX aY aZ bA bB bC bD bE bF bG bH bI bJ bK bL bM bN bO bP bQ bR bS bT bU bV bW bX bY bZ cA cB cC cD cE cF cG cH cI cJ cK cL cM cN cO cP cQ cR cS cT cU cV cW cX cY cZ dA dB dC dD dE dF dG dH dI dJ dK dL dM dN dO dP dQ dR dS dT dU dV dW dX dY dZ eA eB eC eD eE eF eG eH eI eJ eK eL eM eN eO eP eQ eR eS eT eU eV eW eX eY eZ fA fB fC fD fE fF fG fH fI fJ fK fL fM fN fO fP fQ fR fS fT fU fV fW fX fY fZ gA gB gC gD gE gF gG gH gI gJ gK w := (show _ = evK Tryd.prog 87 none (nav [1, 1, 1, 1] (bodyOf Tryd.f87)) none _ ⟨[aA,aB,aC,aD,aE,aF,aG,aH,aI,aJ,aK,aL,aM,aN,aO,aP,aQ,aR,aS,aT,aU,aV,aW,aX,aY,aZ,bA,bB,bC,bD,bE,bF,bG,bH,bI,bJ,bK,bL,bM,bN,bO,bP,bQ,bR,bS,bT,bU,bV,bW,bX,bY,bZ,cA,cB,cC,cD,cE,cF,cG,cH,cI,cJ,cK,cL,cM,cN,cO,cP,cQ,cR,cS,cT,cU,cV,cW,cX,cY,cZ,dA,dB,dC,dD,dE,dF,dG,dH,dI,dJ,dK,dL,dM,dN,dO,dP,dQ,dR,dS,dT,dU,dV,dW,dX,dY,dZ,eA,eB,eC,eD,eE,eF,eG,eH,eI,eJ,eK,eL,eM,eN,eO,eP,eQ,eR,eS,eT,eU,eV,eW,eX,eY,eZ,fA,fB,fC,fD,fE,fF,fG,fH,fI,fJ,fK,fL,fM,fN,fO,fP,fQ,fR,fS,fT,fU,fV,fW,fX,fY,fZ,gA,gB,gC,gD,gE,gF,gG,gH,gI,gJ,gK].toArray, []⟩ w (leaveK Tryd.prog Tryd.f87) from by kernel_rfl).trans (by kernel_rfl)
set_option maxRecDepth 100000 in
theorem s87J1of {w : World} {r : _} (h : s87M1 aA aE aM w = some r) : s87J1 [aA,aB,aC,aD,aE,aF,aG,aH,aI,aJ,aK,aL,aM,aN,aO,aP,aQ,aR,aS,aT,aU,aV,aW,aX,aY,aZ,bA,bB,bC,bD,bE,bF,bG,bH,bI,bJ,bK,bL,bM,bN,bO,bP,bQ,bR,bS,bT,bU,bV,bW,bX,bY,bZ,cA,cB,cC,cD,cE,cF,cG,cH,cI,cJ,cK,cL,cM,cN,cO,cP,cQ,cR,cS,cT,cU,cV,cW,cX,cY,cZ,dA,dB,dC,dD,dE,dF,dG,dH,dI,dJ,dK,dL,dM,dN,dO,dP,dQ,dR,dS,dT,dU,dV,dW,dX,dY,dZ,eA,eB,eC,eD,eE,eF,eG,eH,eI,eJ,eK,eL,eM,eN,eO,eP,eQ,eR,eS,eT,eU,eV,eW,eX,eY,eZ,fA,fB,fC,fD,fE,fF,fG,fH,fI,fJ,fK,fL,fM,fN,fO,fP,fQ,fR,fS,fT,fU,fV,fW,fX,fY,fZ,gA,gB,gC,gD,gE,gF,gG,gH,gI,gJ,gK] [] w = some r :=
  ((s87J1eq w).trans ((Ev.bind_mono fun (_ : Value) => (condK_mono (Ev.bind_mono fun (_ : Value) => (Ev.bind_mono fun (_ : Value) => (Ev.bind_mono fun (_ : Value) => (Ev.bind_mono fun (_ : Value) => (Ev.bind_mono fun (_ : Value) => (Ev.bind_mono fun (_ : Value) => (Ev.bind_mono fun (_ : Value) => (Ev.bind_mono fun (_ : Value) => (Ev.bind_mono fun (_ : Value) => (Ev.bind_mono fun (_ : Value × World) => (Ev.bind_mono fun (_ : Value) => (Ev.bind_mono fun (_ : Value × World) => (chkK_mono (Ev.bind_mono fun (_ : Value) => (s87J2of))))))))))))))) (s87J2of))) h))
theorem s87B0eq (x0 x1 x4 : Value) (w : World) (g : Nat → Value) (d : List Deferred) : evK Tryd.prog 87 none (nav [1, 0, 0, 0] (bodyOf Tryd.f87)) none _ (frm 167 (setL [0, 1, 4] [x0, x1, x4] g) d) w (projK [0, 1, 4]) = s87B0 [x0, x1, x4] w := by kernel_rfl
theorem s87R0x0eq (x0 x1 x4 : Value) (g : Nat → Value) (w : World) : s87K1 (Exit.exit 0) (frm 167 (setL [0, 1, 4] [x0, x1, x4] g) []) w = s87R0x0raw x0 x1 x4 g w := by kernel_rfl
theorem s87R0of : ∀ (e : Exit) (xs : List Value) (w : World) (g : Nat → Value) (y : _), s87R0 e xs w = some y → s87K1 e (frm 167 (setL [0, 1, 4] xs g) []) w = some y := by
  intro e xs w g y h
  unfold s87R0 at h
  split at h
  · exact (s87R0x0eq _ _ _ g _).trans ((Ev.bind_mono fun (_ : Value) => (Ev.bind_mono fun (_ : Value) => (condK_mono (Ev.bind_mono fun (_ : Value) => (Ev.bind_mono fun (_ : Value) => (Ev.bind_mono fun (_ : Value) => (Ev.bind_mono fun (_ : Value) => (Ev.bind_mono fun (_ : Value) => (Ev.bind_mono fun (_ : Value) => (Ev.bind_mono fun (_ : Value) => (Ev.bind_mono fun (_ : Value) => (Ev.bind_mono fun (_ : Value) => (Ev.bind_mono fun (_ : Value) => (Ev.bind_mono fun (_ : Value) => (Ev.bind_mono fun (_ : Value) => (Ev.bind_mono fun (_ : Value × World) => (Ev.bind_mono fun (_ : Value) => (Ev.bind_mono fun (_ : Value × World) => (chkK_mono (Ev.bind_mono fun (_ : Value) => (Ev.bind_mono fun (_ : Value) => (Ev.bind_mono fun (_ : Value) => (Ev.bind_mono fun (_ : Value) => (Ev.bind_mono fun (_ : Value) => (Ev.bind_mono fun (_ : Value) => (Ev.bind_mono fun (_ : Value × World) => (Ev.bind_mono fun (_ : Value) => (Ev.bind_mono fun (_ : Value × World) => (chkK_mono (Ev.bind_mono fun (_ : Value) => (s87J1of)))))))))))))))))))))))))))) (s87J1of)))) h)
  · cases h
set_option maxRecDepth 20000 in
theorem s87L0of {aA aB aC aD aE aF aG aH aI aJ aK aL aM aN aO aP aQ aR aS aT aU aV aW aX aY aZ bA bB bC bD bE bF bG bH bI bJ bK bL bM bN bO bP bQ bR bS bT bU bV bW bX bY bZ cA cB cC cD cE cF cG cH cI cJ cK cL cM cN cO cP cQ cR cS cT cU cV cW cX cY cZ dA dB dC dD dE dF dG dH dI dJ dK dL dM dN dO dP dQ dR dS dT dU dV dW dX dY dZ eA eB eC eD eE eF eG eH eI eJ eK eL eM eN eO eP eQ eR eS eT eU eV eW eX eY eZ fA fB fC fD fE fF fG fH fI fJ fK fL fM fN fO fP fQ fR fS fT fU fV fW fX fY fZ gA gB gC gD gE gF gG gH gI gJ gK : Value} {w : World} {r : _} (h : loopR s87B0 s87R0 [aA,aB,aE] w = some r) : s87L0 [aA,aB,aC,aD,aE,aF,aG,aH,aI,aJ,aK,aL,aM,aN,aO,aP,aQ,aR,aS,aT,aU,aV,aW,aX,aY,aZ,bA,bB,bC,bD,bE,bF,bG,bH,bI,bJ,bK,bL,bM,bN,bO,bP,bQ,bR,bS,bT,bU,bV,bW,bX,bY,bZ,cA,cB,cC,cD,cE,cF,cG,cH,cI,cJ,cK,cL,cM,cN,cO,cP,cQ,cR,cS,cT,cU,cV,cW,cX,cY,cZ,dA,dB,dC,dD,dE,dF,dG,dH,dI,dJ,dK,dL,dM,dN,dO,dP,dQ,dR,dS,dT,dU,dV,dW,dX,dY,dZ,eA,eB,eC,eD,eE,eF,eG,eH,eI,eJ,eK,eL,eM,eN,eO,eP,eQ,eR,eS,eT,eU,eV,eW,eX,eY,eZ,fA,fB,fC,fD,fE,fF,fG,fH,fI,fJ,fK,fL,fM,fN,fO,fP,fQ,fR,fS,fT,fU,fV,fW,fX,fY,fZ,gA,gB,gC,gD,gE,gF,gG,gH,gI,gJ,gK] [] w = some r :=
  loopN_of (B := s87B0) (R := s87R0) (n := 167) (live := [0, 1, 4]) (fun xs w g y hl h => match xs, hl, h with | [x0, x1, x4], _, h => (s87B0eq x0 x1 x4 w g []).trans h) (by kernel_rfl) (s87R0of) (fun i => ([aA,aB,aC,aD,aE,aF,aG,aH,aI,aJ,aK,aL,aM,aN,aO,aP,aQ,aR,aS,aT,aU,aV,aW,aX,aY,aZ,bA,bB,bC,bD,bE,bF,bG,bH,bI,bJ,bK,bL,bM,bN,bO,bP,bQ,bR,bS,bT,bU,bV,bW,bX,bY,bZ,cA,cB,cC,cD,cE,cF,cG,cH,cI,cJ,cK,cL,cM,cN,cO,cP,cQ,cR,cS,cT,cU,cV,cW,cX,cY,cZ,dA,dB,dC,dD,dE,dF,dG,dH,dI,dJ,dK,dL,dM,dN,dO,dP,dQ,dR,dS,dT,dU,dV,dW,dX,dY,dZ,eA,eB,eC,eD,eE,eF,eG,eH,eI,eJ,eK,eL,eM,eN,eO,eP,eQ,eR,eS,eT,eU,eV,eW,eX,eY,eZ,fA,fB,fC,fD,fE,fF,fG,fH,fI,fJ,fK,fL,fM,fN,fO,fP,fQ,fR,fS,fT,fU,fV,fW,fX,fY,fZ,gA,gB,gC,gD,gE,gF,gG,gH,gI,gJ,gK] : List Value).getD i undef) (by kernel_rfl) rfl h
theorem s87eq (x0 x1 : Value) (w : World) : evK Tryd.prog 87 none (bodyOf Tryd.f87) none _ { tmps := (([x0, x1] : List Value) ++ List.replicate (167 - 2) undef).toArray, defers := [] } w (leaveK Tryd.prog Tryd.f87) = s87raw x0 x1 w := by kernel_rfl
set_option maxRecDepth 100000 in
theorem c87 {x0 x1 : Value} {w : World} {r : Value × World} (h : s87 x0 x1 w = some r) : C Tryd.prog 87 #[x0, x1] w = some r :=
  C_ev follows_all drawLaw (by kernel_rfl) Tryd.func87 (by rfl) ((s87eq x0 x1 w).trans (show s87raw x0 x1 w = some r from (Ev.bind_mono fun (_ : Value) => (s87L0of)) h))
theorem e87 {x0 x1 : Value} {w : World} {Q : Value × World → Prop} (h : Brings (s87 x0 x1 w) Q) : Brings (Xcall Tryd.prog (Value.func (Fn.func 87) #[] #[]) #[x0, x1] w) Q :=
  h.call (Xcall_fn Tryd.func87 (by decide +kernel) (by rfl) _ _ _ w) fun _ h => c87 h

/-! internal/strconv.log10Pow2 -/
noncomputable def s100 (x0 : Value) (w : World) : Option (Value × World) :=
  (Qbin Tryd.prog .mul 3 x0 (Value.int .i64 78913)).bind fun v793 =>
  (Qbin Tryd.prog .shr 3 v793 (Value.int .u64 18)).bind fun v794 =>
  some (v794, w)
theorem s100eq (x0 : Value) (w : World) : evK Tryd.prog 100 none (bodyOf Tryd.f100) none _ { tmps := (([x0] : List Value) ++ List.replicate (6 - 1) undef).toArray, defers := [] } w (leaveK Tryd.prog Tryd.f100) = s100 x0 w := by kernel_rfl
theorem c100 {x0 : Value} {w : World} {r : Value × World} (h : s100 x0 w = some r) : C Tryd.prog 100 #[x0] w = some r :=
  C_ev follows_all drawLaw (by kernel_rfl) Tryd.func100 (by rfl) ((s100eq x0 w).trans h)
theorem e100 {x0 : Value} {w : World} {Q : Value × World → Prop} (h : Brings (s100 x0 w) Q) : Brings (Xcall Tryd.prog (Value.func (Fn.func 100) #[] #[]) #[x0] w) Q :=
  h.call (Xcall_fn Tryd.func100 (by decide +kernel) (by rfl) _ _ _ w) fun _ h => c100 h

/-! math/bits.Len64 -/
noncomputable def s101K0 : Exit → Act → World → Option (Value × World) := seqK (fun a w => evK Tryd.prog 101 none (nav [1, 1] (bodyOf Tryd.f101)) none _ a w (leaveK Tryd.prog Tryd.f101)) (leaveK Tryd.prog Tryd.f101)
noncomputable def s101J0 (s : List Value) (d : List Deferred) (w : World) : Option (Value × World) := s101K0 .normal ⟨s.toArray, d⟩ w
noncomputable def s101K1 : Exit → Act → World → Option (Value × World) := seqK (fun a w => evK Tryd.prog 101 none (nav [1, 1, 1] (bodyOf Tryd.f101)) none _ a w (leaveK Tryd.prog Tryd.f101)) (leaveK Tryd.prog Tryd.f101)
noncomputable def s101J1 (s : List Value) (d : List Deferred) (w : World) : Option (Value × World) := s101K1 .normal ⟨s.toArray, d⟩ w
noncomputable def s101K2 : Exit → Act → World → Option (Value × World) := seqK (fun a w => evK Tryd.prog 101 none (nav [1, 1, 1, 1] (bodyOf Tryd.f101)) none _ a w (leaveK Tryd.prog Tryd.f101)) (leaveK Tryd.prog Tryd.f101)
noncomputable def s101J2 (s : List Value) (d : List Deferred) (w : World) : Option (Value × World) := s101K2 .normal ⟨s.toArray, d⟩ w
noncomputable def s101M2 (s0 s2 : Value) (w : World) : Option (Value × World) :=
  (Qconv Tryd.prog 63 5 s0).bind fun v803 =>
  (Qindex Tryd.prog 9 (Value.string bs0e021f) v803 w).bind fun v804 =>
  (Qconv Tryd.prog 5 3 v804).bind fun v805 =>
  (Qbin Tryd.prog .add 3 s2 v805).bind fun v806 =>
  some (v806, w)
noncomputable def s101M1raw (aA aB aC aD aE aF aG aH aI aJ aK aL aM _ _ aP aQ aR aS aT aU aV aW aX aY : Value) (w : World) : Option (Value × World) :=
  (Qbin Tryd.prog .geq 63 aA (Value.int .u64 256)).bind fun v800 =>
  condK v800 (
    (Qbin Tryd.prog .shr 63 aA (Value.int .u64 8)).bind fun v801 =>
    (Qbin Tryd.prog .add 3 aC (Value.int .i64 8)).bind fun v802 =>
    s101J2 [v801, aB, v802, aD,aE,aF,aG,aH,aI,aJ,aK,aL,aM,aA, v800, aA, v801, aC, v802, aT,aU,aV,aW,aX,aY] [] w
  ) (
    s101J2 [aA,aB,aC,aD,aE,aF,aG,aH,aI,aJ,aK,aL,aM,aA, v800, aP,aQ,aR,aS,aT,aU,aV,aW,aX,aY] [] w
  )
noncomputable def s101M1 (s0 s2 : Value) (w : World) : Option (Value × World) :=
  (Qbin Tryd.prog .geq 63 s0 (Value.int .u64 256)).bind fun v800 =>
  condK v800 (
    (Qbin Tryd.prog .shr 63 s0 (Value.int .u64 8)).bind fun v801 =>
    (Qbin Tryd.prog .add 3 s2 (Value.int .i64 8)).bind fun v802 =>
    s101M2 v801 v802 w
  ) (
    s101M2 s0 s2 w
  )
noncomputable def s101M0raw (aA aB aC aD aE aF aG _ _ aJ aK aL aM aN aO aP aQ aR aS aT aU aV aW aX aY : Value) (w : World) : Option (Value × World) :=
  (Qbin Tryd.prog .geq 63 aA (Value.int .u64 65536)).bind fun v797 =>
  condK v797 (
    (Qbin Tryd.prog .shr 63 aA (Value.int .u64 16)).bind fun v798 =>
    (Qbin Tryd.prog .add 3 aC (Value.int .i64 16)).bind fun v799 =>
    s101J1 [v798, aB, v799, aD,aE,aF,aG,aA, v797, aA, v798, aC, v799, aN,aO,aP,aQ,aR,aS,aT,aU,aV,aW,aX,aY] [] w
  ) (
    s101J1 [aA,aB,aC,aD,aE,aF,aG,aA, v797, aJ,aK,aL,aM,aN,aO,aP,aQ,aR,aS,aT,aU,aV,aW,aX,aY] [] w
  )
noncomputable def s101M0 (s0 s2 : Value) (w : World) : Option (Value × World) :=
  (Qbin Tryd.prog .geq 63 s0 (Value.int .u64 65536)).bind fun v797 =>
  condK v797 (
    (Qbin Tryd.prog .shr 63 s0 (Value.int .u64 16)).bind fun v798 =>
    (Qbin Tryd.prog .add 3 s2 (Value.int .i64 16)).bind fun v799 =>
    s101M1 v798 v799 w
  ) (
    s101M1 s0 s2 w
  )
noncomputable def s101raw (x0 : Value) (w : World) : Option (Value × World) :=
  (Qbin Tryd.prog .geq 63 x0 (Value.int .u64 4294967296)).bind fun v795 =>
  condK v795 (
    (Qbin Tryd.prog .shr 63 x0 (Value.int .u64 32)).bind fun v796 =>
    s101J0 [v796, undef, (Value.int .i64 32), x0, v795, x0, v796, undef, undef, undef, undef, undef, undef, undef, undef, undef, undef, undef, undef, undef, undef, undef, undef, undef, undef] [] w
  ) (
    s101J0 [x0, undef, (Value.int .i64 0), x0, v795, undef, undef, undef, undef, undef, undef, undef, undef, undef, undef, undef, undef, undef, undef, undef, undef, undef, undef, undef, undef] [] w
  )
noncomputable def s101 (x0 : Value) (w : World) : Option (Value × World) :=
  (Qbin Tryd.prog .geq 63 x0 (Value.int .u64 4294967296)).bind fun v795 =>
  condK v795 (
    (Qbin Tryd.prog .shr 63 x0 (Value.int .u64 32)).bind fun v796 =>
    s101M0 v796 (Value.int .i64 32) w
  ) (
    s101M0 x0 (Value.int .i64 0) w
  )
theorem s101J2eq (w : World) : s101J2 [aA,aB,aC,aD,aE,aF,aG,aH,aI,aJ,aK,aL,aM,aN,aO,aP,aQ,aR,aS,aT,aU,aV,aW,aX,aY] [] w = s101M2 aA aC w := (show _ = evK Tryd.prog 101 none (nav [1, 1, 1, 1] (bodyOf Tryd.f101)) none _ ⟨[aA,aB,aC,aD,aE,aF,aG,aH,aI,aJ,aK,aL,aM,aN,aO,aP,aQ,aR,aS,aT,aU,aV,aW,aX,aY].toArray, []⟩ w (leaveK Tryd.prog Tryd.f101) from by kernel_rfl).trans (by kernel_rfl)
theorem s101J2of {w : World} {r : _} (h : s101M2 aA aC w = some r) : s101J2 [aA,aB,aC,aD,aE,aF,aG,aH,aI,aJ,aK,aL,aM,aN,aO,aP,aQ,aR,aS,aT,aU,aV,aW,aX,aY] [] w = some r :=
  ((s101J2eq w).trans h)
theorem s101J1eq (w : World) : s101J1 [aA,aB,aC,aD,aE,aF,aG,aH,aI,aJ,aK,aL,aM,aN,aO,aP,aQ,aR,aS,aT,aU,aV,aW,aX,aY] [] w = s101M1raw aA aB aC aD aE aF aG aH aI aJ aK aL aM aN aO aP aQ aR aS aT aU aV aW aX aY w := (show _ = evK Tryd.prog 101 none (nav [1, 1, 1] (bodyOf Tryd.f101)) none _ ⟨[aA,aB,aC,aD,aE,aF,aG,aH,aI,aJ,aK,aL,aM,aN,aO,aP,aQ,aR,aS,aT,aU,aV,aW,aX,aY].toArray, []⟩ w (leaveK Tryd.prog Tryd.f101) from by kernel_rfl).trans (by kernel_rfl)
theorem s101J1of {w : World} {r : _} (h : s101M1 aA aC w = some r) : s101J1 [aA,aB,aC,aD,aE,aF,aG,aH,aI,aJ,aK,aL,aM,aN,aO,aP,aQ,aR,aS,aT,aU,aV,aW,aX,aY] [] w = some r :=
  ((s101J1eq w).trans ((Ev.bind_mono fun (_ : Value) => (condK_mono (Ev.bind_mono fun (_ : Value) => (Ev.bind_mono fun (_ : Value) => (s101J2of))) (s101J2of))) h))
theorem s101J0eq (w : World) : s101J0 [aA,aB,aC,aD,aE,aF,aG,aH,aI,aJ,aK,aL,aM,aN,aO,aP,aQ,aR,aS,aT,aU,aV,aW,aX,aY] [] w = s101M0raw aA aB aC aD aE aF aG aH aI aJ aK aL aM aN aO aP aQ aR aS aT aU aV aW aX aY w := (show _ = evK Tryd.prog 101 none (nav [1, 1] (bodyOf Tryd.f101)) none _ ⟨[aA,aB,aC,aD,aE,aF,aG,aH,aI,aJ,aK,aL,aM,aN,aO,aP,aQ,aR,aS,aT,aU,aV,aW,aX,aY].toArray, []⟩ w (leaveK Tryd.prog Tryd.f101) from by kernel_rfl).trans (by kernel_rfl)
theorem s101J0of {w : World} {r : _} (h : s101M0 aA aC w = some r) : s101J0 [aA,aB,aC,aD,aE,aF,aG,aH,aI,aJ,aK,aL,aM,aN,aO,aP,aQ,aR,aS,aT,aU,aV,aW,aX,aY] [] w = some r :=
  ((s101J0eq w).trans ((Ev.bind_mono fun (_ : Value) => (condK_mono (Ev.bind_mono fun (_ : Value) => (Ev.bind_mono fun (_ : Value) => (s101J1of))) (s101J1of))) h))
theorem s101eq (x0 : Value) (w : World) : evK Tryd.prog 101 none (bodyOf Tryd.f101) none _ { tmps := (([x0] : List Value) ++ List.replicate (25 - 1) undef).toArray, defers := [] } w (leaveK Tryd.prog Tryd.f101) = s101raw x0 w := by kernel_rfl
theorem c101 {x0 : Value} {w : World} {r : Value × World} (h : s101 x0 w = some r) : C Tryd.prog 101 #[x0] w = some r :=
  C_ev follows_all drawLaw (by kernel_rfl) Tryd.func101 (by rfl) ((s101eq x0 w).trans (show s101raw x0 w = some r from (Ev.bind_mono fun (_ : Value) => (condK_mono (Ev.bind_mono fun (_ : Value) => (s101J0of)) (s101J0of))) h))
theorem e101 {x0 : Value} {w : World} {Q : Value × World → Prop} (h : Brings (s101 x0 w) Q) : Brings (Xcall Tryd.prog (Value.func (Fn.func 101) #[] #[]) #[x0] w) Q :=
  h.call (Xcall_fn Tryd.func101 (by decide +kernel) (by rfl) _ _ _ w) fun _ h => c101 h

/-! lychgate/ftp.dotted -/
noncomputable def s34K0 : Exit → Act → World → Option (Value × World) := seqK (fun a w => evK Tryd.prog 34 none (nav [1, 1, 1] (bodyOf Tryd.f34)) none _ a w (leaveK Tryd.prog Tryd.f34)) (leaveK Tryd.prog Tryd.f34)
noncomputable def s34K1 : Exit → Act → World → Option (Value × World) := blockK 0 s34K0
noncomputable def s34L0 (s : List Value) (d : List Deferred) (w : World) : Option (Value × World) := loopN Tryd.prog 34 none (nav [1, 1, 0, 1, 0, 0] (bodyOf Tryd.f34)) s34K1 s d w
noncomputable def s34B0 : List Value → World → Option (Exit × List Value × World)
  | [x0, x1, x5, x6], w =>
    (Qbin Tryd.prog .geq 3 x6 (Value.int .i64 0)).bind fun v807 =>
    condK v807 (
      (Qbin Tryd.prog .shr 24 x0 x6).bind fun v808 =>
      (Qconv Tryd.prog 24 5 v808).bind fun v809 =>
      (Qconv Tryd.prog 5 3 v809).bind fun v810 =>
      (Xcall Tryd.prog (Value.func (Fn.func 33) #[] #[]) #[v810] w).bind fun r811 =>
      (XbuildSlice Tryd.prog 46 1 #[(0, r811.1)] r811.2).bind fun r812 =>
      (Xbi Tryd.prog Go.Builtin.append #[46, 46] 46 #[x5, r812.1] r812.2).bind fun r813 =>
      (Qbin Tryd.prog .sub 3 x6 (Value.int .i64 8)).bind fun v814 =>
      some (Exit.normal, [x0, x1, r813.1, v814], r813.2)
    ) (
      some ((Exit.exit 0), [x0, x1, x5, x6], w)
    )
  | _, _ => none
noncomputable def s34R0 : Exit → List Value → World → Option (Value × World)
  | (Exit.exit 0), [_, x1, x5, _], w =>
    (Xcall Tryd.prog (Value.func (Fn.func 49) #[] #[]) #[x5, x1] w).bind fun r815 =>
    some (r815.1, r815.2)
  | _, _, _ => none
noncomputable def s34raw (x0 x1 : Value) (w : World) : Option (Value × World) :=
  s34L0 [x0, x1, undef, undef, (Value.string { data := #[] }), (Value.slice none 0 0), (Value.int .i64 24), undef, undef, undef, undef, undef, undef, undef, undef, undef, undef, undef, undef, undef, undef, undef, undef] [] w
noncomputable def s34 (x0 x1 : Value) (w : World) : Option (Value × World) :=
  loopR s34B0 s34R0 [x0, x1, (Value.slice none 0 0), (Value.int .i64 24)] w
theorem s34B0eq (x0 x1 x5 x6 : Value) (w : World) (g : Nat → Value) (d : List Deferred) : evK Tryd.prog 34 none (nav [1, 1, 0, 1, 0, 0] (bodyOf Tryd.f34)) none _ (frm 23 (setL [0, 1, 5, 6] [x0, x1, x5, x6] g) d) w (projK [0, 1, 5, 6]) = s34B0 [x0, x1, x5, x6] w := by kernel_rfl
theorem s34R0x0eq (x0 x1 x5 x6 : Value) (g : Nat → Value) (w : World) : s34K1 (Exit.exit 0) (frm 23 (setL [0, 1, 5, 6] [x0, x1, x5, x6] g) []) w = s34R0 (Exit.exit 0) [x0, x1, x5, x6] w := by kernel_rfl
theorem s34R0of : ∀ (e : Exit) (xs : List Value) (w : World) (g : Nat → Value) (y : _), s34R0 e xs w = some y → s34K1 e (frm 23 (setL [0, 1, 5, 6] xs g) []) w = some y := by
  intro e xs w g y h
  unfold s34R0 at h
  split at h
  · exact (s34R0x0eq _ _ _ _ g _).trans h
  · cases h
set_option maxRecDepth 20000 in
theorem s34L0of {aA aB aC aD aE aF aG aH aI aJ aK aL aM aN aO aP aQ aR aS aT aU aV aW : Value} {w : World} {r : _} (h : loopR s34B0 s34R0 [aA,aB,aF,aG] w = some r) : s34L0 [aA,aB,aC,aD,aE,aF,aG,aH,aI,aJ,aK,aL,aM,aN,aO,aP,aQ,aR,aS,aT,aU,aV,aW] [] w = some r :=
  loopN_of (B := s34B0) (R := s34R0) (n := 23) (live := [0, 1, 5, 6]) (fun xs w g y hl h => match xs, hl, h with | [x0, x1, x5, x6], _, h => (s34B0eq x0 x1 x5 x6 w g []).trans h) (by kernel_rfl) (s34R0of) (fun i => ([aA,aB,aC,aD,aE,aF,aG,aH,aI,aJ,aK,aL,aM,aN,aO,aP,aQ,aR,aS,aT,aU,aV,aW] : List Value).getD i undef) (by kernel_rfl) rfl h
theorem s34eq (x0 x1 : Value) (w : World) : evK Tryd.prog 34 none (bodyOf Tryd.f34) none _ { tmps := (([x0, x1] : List Value) ++ List.replicate (23 - 2) undef).toArray, defers := [] } w (leaveK Tryd.prog Tryd.f34) = s34raw x0 x1 w := by kernel_rfl
theorem c34 {x0 x1 : Value} {w : World} {r : Value × World} (h : s34 x0 x1 w = some r) : C Tryd.prog 34 #[x0, x1] w = some r :=
  C_ev follows_all drawLaw (by kernel_rfl) Tryd.func34 (by rfl) ((s34eq x0 x1 w).trans (show s34raw x0 x1 w = some r from (s34L0of) h))
theorem e34 {x0 x1 : Value} {w : World} {Q : Value × World → Prop} (h : Brings (s34 x0 x1 w) Q) : Brings (Xcall Tryd.prog (Value.func (Fn.func 34) #[] #[]) #[x0, x1] w) Q :=
  h.call (Xcall_fn Tryd.func34 (by decide +kernel) (by rfl) _ _ _ w) fun _ h => c34 h

/-! strings.Join -/
noncomputable def s49K0 : Exit → Act → World → Option (Value × World) := seqK (fun a w => evK Tryd.prog 49 none (nav [1, 1, 1, 1] (bodyOf Tryd.f49)) none _ a w (leaveK Tryd.prog Tryd.f49)) (leaveK Tryd.prog Tryd.f49)
noncomputable def s49J0 (s : List Value) (d : List Deferred) (w : World) : Option (Value × World) := s49K0 .normal ⟨s.toArray, d⟩ w
noncomputable def s49K1 : Exit → Act → World → Option (Value × World) := seqK (fun a w => evK Tryd.prog 49 none (nav [1, 1, 1, 0, 1, 0, 1] (bodyOf Tryd.f49)) none _ a w s49K0) s49K0
noncomputable def s49J1 (s : List Value) (d : List Deferred) (w : World) : Option (Value × World) := s49K1 .normal ⟨s.toArray, d⟩ w
noncomputable def s49K2 : Exit → Act → World → Option (Value × World) := seqK (fun a w => evK Tryd.prog 49 none (nav [1, 1, 1, 1, 1] (bodyOf Tryd.f49)) none _ a w (leaveK Tryd.prog Tryd.f49)) (leaveK Tryd.prog Tryd.f49)
noncomputable def s49K3 : Exit → Act → World → Option (Value × World) := blockK 1 s49K2
noncomputable def s49L2 (s : List Value) (d : List Deferred) (w : World) : Option (Value × World) := loopN Tryd.prog 49 none (nav [1, 1, 1, 1, 0, 1, 0, 0] (bodyOf Tryd.f49)) s49K3 s d w
noncomputable def s49K4 : Exit → Act → World → Option (Exit × List Value × World) := seqK (fun a w => evK Tryd.prog 49 none (nav [1, 1, 1, 1, 0, 1, 0, 0, 1, 1, 1] (bodyOf Tryd.f49)) none _ a w (projK [0, 1, 5, 39, 40, 41])) (projK [0, 1, 5, 39, 40, 41])
noncomputable def s49K5 : Exit → Act → World → Option (Exit × List Value × World) := blockK 2 s49K4
noncomputable def s49K6 : Exit → Act → World → Option (Exit × List Value × World) := seqK (fun a w => evK Tryd.prog 49 none (nav [1, 1, 1, 1, 0, 1, 0, 0, 1, 1, 0, 0, 1, 1] (bodyOf Tryd.f49)) none _ a w s49K5) s49K5
noncomputable def s49K7 : Exit → Act → World → Option (Value × World) := seqK (fun a w => evK Tryd.prog 49 none (nav [1, 1, 1, 1, 1, 1, 1, 1, 1] (bodyOf Tryd.f49)) none _ a w (leaveK Tryd.prog Tryd.f49)) (leaveK Tryd.prog Tryd.f49)
noncomputable def s49K8 : Exit → Act → World → Option (Value × World) := blockK 3 s49K7
noncomputable def s49L3 (s : List Value) (d : List Deferred) (w : World) : Option (Value × World) := loopN Tryd.prog 49 none (nav [1, 1, 1, 1, 1, 1, 1, 1, 0, 1, 0, 0] (bodyOf Tryd.f49)) s49K8 s d w
noncomputable def s49B3 : List Value → World → Option (Exit × List Value × World)
  | [x1, x8, x63, x64, x65], w =>
    (Qbin Tryd.prog .lss 3 x65 x64).bind fun v850 =>
    condK v850 (
      (QindexAddr Tryd.prog 46 x63 x65 w).bind fun v851 =>
      (Qload Tryd.prog 9 v851 w).bind fun v852 =>
      (Xcall Tryd.prog (Value.func (Fn.func 58) #[] #[]) #[x8, x1] w).bind fun r853 =>
      (Xcall Tryd.prog (Value.func (Fn.func 58) #[] #[]) #[x8, v852] r853.2).bind fun r854 =>
      (Qbin Tryd.prog .add 3 x65 (Value.int .i64 1)).bind fun v855 =>
      some (Exit.normal, [x1, x8, x63, x64, v855], r854.2)
    ) (
      some ((Exit.exit 3), [x1, x8, x63, x64, x65], w)
    )
  | _, _ => none
noncomputable def s49R3 : Exit → List Value → World → Option (Value × World)
  | (Exit.exit 3), [_, x8, _, _, _], w =>
    (Xcall Tryd.prog (Value.func (Fn.func 62) #[] #[]) #[x8] w).bind fun r856 =>
    some (r856.1, r856.2)
  | _, _, _ => none
noncomputable def s49B2raw (g : Nat → Value) (d : List Deferred) : List Value → World → Option (Exit × List Value × World)
  | [x0, x1, x5, x39, x40, x41], w =>
    (Qbin Tryd.prog .lss 3 x41 x40).bind fun v834 =>
    condK v834 (
      (QindexAddr Tryd.prog 46 x39 x41 w).bind fun v835 =>
      (Qload Tryd.prog 9 v835 w).bind fun v836 =>
      (Qlen Tryd.prog #[9] 3 #[v836] w).bind fun v837 =>
      (Qbin Tryd.prog .sub 3 (Value.int .i64 9223372036854775807) x5).bind fun v838 =>
      (Qbin Tryd.prog .gtr 3 v837 v838).bind fun v839 =>
      condK v839 (
        evK Tryd.prog 49 none (nav [1, 1, 1, 1, 0, 1, 0, 0, 1, 1, 0, 0, 1, 0, 1, 0] (bodyOf Tryd.f49)) none _ ⟨[x0, x1, g 2,g 3,g 4, x5, g 6, v836, g 8,g 9,g 10,g 11,g 12,g 13,g 14,g 15,g 16,g 17,g 18,g 19,g 20,g 21,g 22,g 23,g 24,g 25,g 26,g 27,g 28,g 29,g 30,g 31,g 32,g 33,g 34,g 35,g 36,g 37,g 38, x39, x40, x41, v834, v835, v836, v836, v837, x5, v838, v839, g 50,g 51,g 52,g 53,g 54,g 55,g 56,g 57,g 58,g 59,g 60,g 61,g 62,g 63,g 64,g 65,g 66,g 67,g 68,g 69,g 70,g 71,g 72,g 73,g 74].toArray, d⟩ w s49K6
      ) (
        (Qlen Tryd.prog #[9] 3 #[v836] w).bind fun v840 =>
        (Qbin Tryd.prog .add 3 x5 v840).bind fun v841 =>
        (Qbin Tryd.prog .add 3 x41 (Value.int .i64 1)).bind fun v842 =>
        some (Exit.normal, [x0, x1, v841, x39, x40, v842], w)
      )
    ) (
      some ((Exit.exit 1), [x0, x1, x5, x39, x40, x41], w)
    )
  | _, _ => none
noncomputable def s49B2 : List Value → World → Option (Exit × List Value × World)
  | [x0, x1, x5, x39, x40, x41], w =>
    (Qbin Tryd.prog .lss 3 x41 x40).bind fun v834 =>
    condK v834 (
      (QindexAddr Tryd.prog 46 x39 x41 w).bind fun v835 =>
      (Qload Tryd.prog 9 v835 w).bind fun v836 =>
      (Qlen Tryd.prog #[9] 3 #[v836] w).bind fun v837 =>
      (Qbin Tryd.prog .sub 3 (Value.int .i64 9223372036854775807) x5).bind fun v838 =>
      (Qbin Tryd.prog .gtr 3 v837 v838).bind fun v839 =>
      condK v839 (
        none
      ) (
        (Qlen Tryd.prog #[9] 3 #[v836] w).bind fun v840 =>
        (Qbin Tryd.prog .add 3 x5 v840).bind fun v841 =>
        (Qbin Tryd.prog .add 3 x41 (Value.int .i64 1)).bind fun v842 =>
        some (Exit.normal, [x0, x1, v841, x39, x40, v842], w)
      )
    ) (
      some ((Exit.exit 1), [x0, x1, x5, x39, x40, x41], w)
    )
  | _, _ => none
noncomputable def s49R2 : Exit → List Value → World → Option (Value × World)
  | (Exit.exit 1), [x0, x1, x5, _, _, _], w =>
    (Xalloc Tryd.prog 114 w).bind fun r843 =>
    (Xcall Tryd.prog (Value.func (Fn.func 57) #[] #[]) #[r843.1, x5] r843.2).bind fun r844 =>
    (QindexAddr Tryd.prog 46 x0 (Value.int .i64 0) r844.2).bind fun v845 =>
    (Qload Tryd.prog 9 v845 r844.2).bind fun v846 =>
    (Xcall Tryd.prog (Value.func (Fn.func 58) #[] #[]) #[r843.1, v846] r844.2).bind fun r847 =>
    (Qslice Tryd.prog 46 x0 (some (Value.int .i64 1)) none none r847.2).bind fun v848 =>
    (Qlen Tryd.prog #[46] 3 #[v848] r847.2).bind fun v849 =>
    loopR s49B3 s49R3 [x1, r843.1, v848, v849, (Value.int .i64 0)] r847.2
  | _, _, _ => none
noncomputable def s49R2x1raw (x0 x1 x5 x39 x40 x41 : Value) (g : Nat → Value) (w : World) : Option (Value × World) :=
  (Xalloc Tryd.prog 114 w).bind fun r843 =>
  (Xcall Tryd.prog (Value.func (Fn.func 57) #[] #[]) #[r843.1, x5] r843.2).bind fun r844 =>
  (QindexAddr Tryd.prog 46 x0 (Value.int .i64 0) r844.2).bind fun v845 =>
  (Qload Tryd.prog 9 v845 r844.2).bind fun v846 =>
  (Xcall Tryd.prog (Value.func (Fn.func 58) #[] #[]) #[r843.1, v846] r844.2).bind fun r847 =>
  (Qslice Tryd.prog 46 x0 (some (Value.int .i64 1)) none none r847.2).bind fun v848 =>
  (Qlen Tryd.prog #[46] 3 #[v848] r847.2).bind fun v849 =>
  s49L3 [x0, x1, g 2,g 3,g 4, x5, g 6,g 7, r843.1, g 9,g 10,g 11,g 12,g 13,g 14,g 15,g 16,g 17,g 18,g 19,g 20,g 21,g 22,g 23,g 24,g 25,g 26,g 27,g 28,g 29,g 30,g 31,g 32,g 33,g 34,g 35,g 36,g 37,g 38, x39, x40, x41, g 42,g 43,g 44,g 45,g 46,g 47,g 48,g 49,g 50,g 51,g 52,g 53,g 54,g 55, x5, r844.1, x0, v845, v846, r847.1, x0, v848, v849, (Value.int .i64 0), g 66,g 67,g 68,g 69,g 70,g 71,g 72,g 73,g 74] [] r847.2
noncomputable def s49M0raw (aA aB aC aD aE aF aG aH aI aJ aK aL aM aN aO aP aQ aR aS aT aU aV aW aX aY aZ bA bB bC bD bE bF bG bH bI bJ bK bL bM _ _ _ bQ bR bS bT bU bV bW bX bY bZ cA cB cC cD cE cF cG cH cI cJ cK cL cM cN cO cP cQ cR cS cT cU cV cW : Value) (w : World) : Option (Value × World) :=
  (Qlen Tryd.prog #[46] 3 #[aA] w).bind fun v828 =>
  s49L2 [aA,aB,aC,aD,aE,aF,aG,aH,aI,aJ,aK,aL,aM,aN,aO,aP,aQ,aR,aS,aT,aU,aV,aW,aX,aY,aZ,bA,bB,bC,bD,bE,bF,bG,bH,bI,bJ,bK,bL,bM,aA, v828, (Value.int .i64 0), bQ,bR,bS,bT,bU,bV,bW,bX,bY,bZ,cA,cB,cC,cD,cE,cF,cG,cH,cI,cJ,cK,cL,cM,cN,cO,cP,cQ,cR,cS,cT,cU,cV,cW] [] w
noncomputable def s49M0 (s0 s1 s5 : Value) (w : World) : Option (Value × World) :=
  (Qlen Tryd.prog #[46] 3 #[s0] w).bind fun v828 =>
  loopR s49B2 s49R2 [s0, s1, s5, s0, v828, (Value.int .i64 0)] w
noncomputable def s49M1raw (aA aB aC aD aE aF aG aH aI aJ aK aL aM aN aO aP aQ aR aS aT aU aV aW aX aY aZ bA bB bC bD bE _ _ _ _ _ _ _ _ bN bO bP bQ bR bS bT bU bV bW bX bY bZ cA cB cC cD cE cF cG cH cI cJ cK cL cM cN cO cP cQ cR cS cT cU cV cW : Value) (w : World) : Option (Value × World) :=
  (Qlen Tryd.prog #[9] 3 #[aB] w).bind fun v829 =>
  (Qlen Tryd.prog #[46] 3 #[aA] w).bind fun v830 =>
  (Qbin Tryd.prog .sub 3 v830 (Value.int .i64 1)).bind fun v831 =>
  (Qbin Tryd.prog .mul 3 v829 v831).bind fun v832 =>
  (Qbin Tryd.prog .add 3 aF v832).bind fun v833 =>
  s49J0 [aA,aB,aC,aD,aE, v833, aG,aH,aI,aJ,aK,aL,aM,aN,aO,aP,aQ,aR,aS,aT,aU,aV,aW,aX,aY,aZ,bA,bB,bC,bD,bE,aF,aB, v829, aA, v830, v831, v832, v833, bN,bO,bP,bQ,bR,bS,bT,bU,bV,bW,bX,bY,bZ,cA,cB,cC,cD,cE,cF,cG,cH,cI,cJ,cK,cL,cM,cN,cO,cP,cQ,cR,cS,cT,cU,cV,cW] [] w
noncomputable def s49M1 (s0 s1 s5 : Value) (w : World) : Option (Value × World) :=
  (Qlen Tryd.prog #[9] 3 #[s1] w).bind fun v829 =>
  (Qlen Tryd.prog #[46] 3 #[s0] w).bind fun v830 =>
  (Qbin Tryd.prog .sub 3 v830 (Value.int .i64 1)).bind fun v831 =>
  (Qbin Tryd.prog .mul 3 v829 v831).bind fun v832 =>
  (Qbin Tryd.prog .add 3 s5 v832).bind fun v833 =>
  s49M0 s0 s1 v833 w
noncomputable def s49raw (x0 x1 : Value) (w : World) : Option (Value × World) :=
  (Qlen Tryd.prog #[46] 3 #[x0] w).bind fun v816 =>
  (Qbin Tryd.prog .eql 3 v816 (Value.int .i64 0)).bind fun v817 =>
  condK v817 (
    some ((Value.string { data := #[] }), w)
  ) (
    (Qbin Tryd.prog .eql 3 v816 (Value.int .i64 1)).bind fun v818 =>
    condK v818 (
      (QindexAddr Tryd.prog 46 x0 (Value.int .i64 0) w).bind fun v819 =>
      (Qload Tryd.prog 9 v819 w).bind fun v820 =>
      some (v820, w)
    ) (
      (Qlen Tryd.prog #[9] 3 #[x1] w).bind fun v821 =>
      (Qbin Tryd.prog .gtr 3 v821 (Value.int .i64 0)).bind fun v822 =>
      condK v822 (
        (Qlen Tryd.prog #[9] 3 #[x1] w).bind fun v823 =>
        (Qlen Tryd.prog #[46] 3 #[x0] w).bind fun v824 =>
        (Qbin Tryd.prog .sub 3 v824 (Value.int .i64 1)).bind fun v825 =>
        (Qbin Tryd.prog .quo 3 (Value.int .i64 9223372036854775807) v825).bind fun v826 =>
        (Qbin Tryd.prog .geq 3 v823 v826).bind fun v827 =>
        condK v827 (
          evK Tryd.prog 49 none (nav [1, 1, 1, 0, 1, 0, 0, 1, 0] (bodyOf Tryd.f49)) none _ ⟨[x0, x1, undef, undef, (Value.string { data := #[] }), (Value.int .i64 0), undef, undef, undef, undef, undef, x0, v816, v817, v817, v818, v818, undef, undef, undef, x1, v821, v822, x1, v823, x0, v824, v825, v826, v827, undef, undef, undef, undef, undef, undef, undef, undef, undef, undef, undef, undef, undef, undef, undef, undef, undef, undef, undef, undef, undef, undef, undef, undef, undef, undef, undef, undef, undef, undef, undef, undef, undef, undef, undef, undef, undef, undef, undef, undef, undef, undef, undef, undef, undef].toArray, []⟩ w s49K1
        ) (
          s49J1 [x0, x1, undef, undef, (Value.string { data := #[] }), (Value.int .i64 0), undef, undef, undef, undef, undef, x0, v816, v817, v817, v818, v818, undef, undef, undef, x1, v821, v822, x1, v823, x0, v824, v825, v826, v827, undef, undef, undef, undef, undef, undef, undef, undef, undef, undef, undef, undef, undef, undef, undef, undef, undef, undef, undef, undef, undef, undef, undef, undef, undef, undef, undef, undef, undef, undef, undef, undef, undef, undef, undef, undef, undef, undef, undef, undef, undef, undef, undef, undef, undef] [] w
        )
      ) (
        s49J0 [x0, x1, undef, undef, (Value.string { data := #[] }), (Value.int .i64 0), undef, undef, undef, undef, undef, x0, v816, v817, v817, v818, v818, undef, undef, undef, x1, v821, v822, undef, undef, undef, undef, undef, undef, undef, undef, undef, undef, undef, undef, undef, undef, undef, undef, undef, undef, undef, undef, undef, undef, undef, undef, undef, undef, undef, undef, undef, undef, undef, undef, undef, undef, undef, undef, undef, undef, undef, undef, undef, undef, undef, undef, undef, undef, undef, undef, undef, undef, undef, undef] [] w
      )
    )
  )
noncomputable def s49 (x0 x1 : Value) (w : World) : Option (Value × World) :=
  (Qlen Tryd.prog #[46] 3 #[x0] w).bind fun v816 =>
  (Qbin Tryd.prog .eql 3 v816 (Value.int .i64 0)).bind fun v817 =>
  condK v817 (
    some ((Value.string { data := #[] }), w)
  ) (
    (Qbin Tryd.prog .eql 3 v816 (Value.int .i64 1)).bind fun v818 =>
    condK v818 (
      (QindexAddr Tryd.prog 46 x0 (Value.int .i64 0) w).bind fun v819 =>
      (Qload Tryd.prog 9 v819 w).bind fun v820 =>
      some (v820, w)
    ) (
      (Qlen Tryd.prog #[9] 3 #[x1] w).bind fun v821 =>
      (Qbin Tryd.prog .gtr 3 v821 (Value.int .i64 0)).bind fun v822 =>
      condK v822 (
        (Qlen Tryd.prog #[9] 3 #[x1] w).bind fun v823 =>
        (Qlen Tryd.prog #[46] 3 #[x0] w).bind fun v824 =>
        (Qbin Tryd.prog .sub 3 v824 (Value.int .i64 1)).bind fun v825 =>
        (Qbin Tryd.prog .quo 3 (Value.int .i64 9223372036854775807) v825).bind fun v826 =>
        (Qbin Tryd.prog .geq 3 v823 v826).bind fun v827 =>
        condK v827 (
          none
        ) (
          s49M1 x0 x1 (Value.int .i64 0) w
        )
      ) (
        s49M0 x0 x1 (Value.int .i64 0) w
      )
    )
  )
theorem s49B3eq (x1 x8 x63 x64 x65 : Value) (w : World) (g : Nat → Value) (d : List Deferred) : evK Tryd.prog 49 none (nav [1, 1, 1, 1, 1, 1, 1, 1, 0, 1, 0, 0] (bodyOf Tryd.f49)) none _ (frm 75 (setL [1, 8, 63, 64, 65] [x1, x8, x63, x64, x65] g) d) w (projK [1, 8, 63, 64, 65]) = s49B3 [x1, x8, x63, x64, x65] w := by kernel_rfl
theorem s49R3x3eq (x1 x8 x63 x64 x65 : Value) (g : Nat → Value) (w : World) : s49K8 (Exit.exit 3) (frm 75 (setL [1, 8, 63, 64, 65] [x1, x8, x63, x64, x65] g) []) w = s49R3 (Exit.exit 3) [x1, x8, x63, x64, x65] w := by kernel_rfl
theorem s49R3of : ∀ (e : Exit) (xs : List Value) (w : World) (g : Nat → Value) (y : _), s49R3 e xs w = some y → s49K8 e (frm 75 (setL [1, 8, 63, 64, 65] xs g) []) w = some y := by
  intro e xs w g y h
  unfold s49R3 at h
  split at h
  · exact (s49R3x3eq _ _ _ _ _ g _).trans h
  · cases h
set_option maxRecDepth 20000 in
theorem s49L3of {aA aB aC aD aE aF aG aH aI aJ aK aL aM aN aO aP aQ aR aS aT aU aV aW aX aY aZ bA bB bC bD bE bF bG bH bI bJ bK bL bM bN bO bP bQ bR bS bT bU bV bW bX bY bZ cA cB cC cD cE cF cG cH cI cJ cK cL cM cN cO cP cQ cR cS cT cU cV cW : Value} {w : World} {r : _} (h : loopR s49B3 s49R3 [aB,aI,cL,cM,cN] w = some r) : s49L3 [aA,aB,aC,aD,aE,aF,aG,aH,aI,aJ,aK,aL,aM,aN,aO,aP,aQ,aR,aS,aT,aU,aV,aW,aX,aY,aZ,bA,bB,bC,bD,bE,bF,bG,bH,bI,bJ,bK,bL,bM,bN,bO,bP,bQ,bR,bS,bT,bU,bV,bW,bX,bY,bZ,cA,cB,cC,cD,cE,cF,cG,cH,cI,cJ,cK,cL,cM,cN,cO,cP,cQ,cR,cS,cT,cU,cV,cW] [] w = some r :=
  loopN_of (B := s49B3) (R := s49R3) (n := 75) (live := [1, 8, 63, 64, 65]) (fun xs w g y hl h => match xs, hl, h with | [x1, x8, x63, x64, x65], _, h => (s49B3eq x1 x8 x63 x64 x65 w g []).trans h) (by kernel_rfl) (s49R3of) (fun i => ([aA,aB,aC,aD,aE,aF,aG,aH,aI,aJ,aK,aL,aM,aN,aO,aP,aQ,aR,aS,aT,aU,aV,aW,aX,aY,aZ,bA,bB,bC,bD,bE,bF,bG,bH,bI,bJ,bK,bL,bM,bN,bO,bP,bQ,bR,bS,bT,bU,bV,bW,bX,bY,bZ,cA,cB,cC,cD,cE,cF,cG,cH,cI,cJ,cK,cL,cM,cN,cO,cP,cQ,cR,cS,cT,cU,cV,cW] : List Value).getD i undef) (by kernel_rfl) rfl h
theorem s49B2eq (x0 x1 x5 x39 x40 x41 : Value) (w : World) (g : Nat → Value) (d : List Deferred) : evK Tryd.prog 49 none (nav [1, 1, 1, 1, 0, 1, 0, 0] (bodyOf Tryd.f49)) none _ (frm 75 (setL [0, 1, 5, 39, 40, 41] [x0, x1, x5, x39, x40, x41] g) d) w (projK [0, 1, 5, 39, 40, 41]) = s49B2raw g d [x0, x1, x5, x39, x40, x41] w := by kernel_rfl
theorem s49R2x1eq (x0 x1 x5 x39 x40 x41 : Value) (g : Nat → Value) (w : World) : s49K3 (Exit.exit 1) (frm 75 (setL [0, 1, 5, 39, 40, 41] [x0, x1, x5, x39, x40, x41] g) []) w = s49R2x1raw x0 x1 x5 x39 x40 x41 g w := by kernel_rfl
theorem s49R2of : ∀ (e : Exit) (xs : List Value) (w : World) (g : Nat → Value) (y : _), s49R2 e xs w = some y → s49K3 e (frm 75 (setL [0, 1, 5, 39, 40, 41] xs g) []) w = some y := by
  intro e xs w g y h
  unfold s49R2 at h
  split at h
  · exact (s49R2x1eq _ _ _ _ _ _ g _).trans ((Ev.bind_mono fun (_ : Value × World) => (Ev.bind_mono fun (_ : Value × World) => (Ev.bind_mono fun (_ : Value) => (Ev.bind_mono fun (_ : Value) => (Ev.bind_mono fun (_ : Value × World) => (Ev.bind_mono fun (_ : Value) => (Ev.bind_mono fun (_ : Value) => (s49L3of)))))))) h)
  · cases h
set_option maxRecDepth 20000 in
theorem s49L2of {aA aB aC aD aE aF aG aH aI aJ aK aL aM aN aO aP aQ aR aS aT aU aV aW aX aY aZ bA bB bC bD bE bF bG bH bI bJ bK bL bM bN bO bP bQ bR bS bT bU bV bW bX bY bZ cA cB cC cD cE cF cG cH cI cJ cK cL cM cN cO cP cQ cR cS cT cU cV cW : Value} {w : World} {r : _} (h : loopR s49B2 s49R2 [aA,aB,aF,bN,bO,bP] w = some r) : s49L2 [aA,aB,aC,aD,aE,aF,aG,aH,aI,aJ,aK,aL,aM,aN,aO,aP,aQ,aR,aS,aT,aU,aV,aW,aX,aY,aZ,bA,bB,bC,bD,bE,bF,bG,bH,bI,bJ,bK,bL,bM,bN,bO,bP,bQ,bR,bS,bT,bU,bV,bW,bX,bY,bZ,cA,cB,cC,cD,cE,cF,cG,cH,cI,cJ,cK,cL,cM,cN,cO,cP,cQ,cR,cS,cT,cU,cV,cW] [] w = some r :=
  loopN_of (B := s49B2) (R := s49R2) (n := 75) (live := [0, 1, 5, 39, 40, 41]) (fun xs w g y hl h => match xs, hl, h with | [x0, x1, x5, x39, x40, x41], _, h => (s49B2eq x0 x1 x5 x39 x40 x41 w g []).trans (show s49B2raw g [] [x0, x1, x5, x39, x40, x41] w = some y from (Ev.bind_mono fun (_ : Value) => (condK_mono (Ev.bind_mono fun (_ : Value) => (Ev.bind_mono fun (_ : Value) => (Ev.bind_mono fun (_ : Value) => (Ev.bind_mono fun (_ : Value) => (Ev.bind_mono fun (_ : Value) => (condK_mono (fun h => by cases h) id)))))) id)) h)) (by kernel_rfl) (s49R2of) (fun i => ([aA,aB,aC,aD,aE,aF,aG,aH,aI,aJ,aK,aL,aM,aN,aO,aP,aQ,aR,aS,aT,aU,aV,aW,aX,aY,aZ,bA,bB,bC,bD,bE,bF,bG,bH,bI,bJ,bK,bL,bM,bN,bO,bP,bQ,bR,bS,bT,bU,bV,bW,bX,bY,bZ,cA,cB,cC,cD,cE,cF,cG,cH,cI,cJ,cK,cL,cM,cN,cO,cP,cQ,cR,cS,cT,cU,cV,cW] : List Value).getD i undef) (by kernel_rfl) rfl h
set_option maxRecDepth 100000 in
theorem s49J0eq (w : World) : s49J0 [aA,aB,aC,aD,aE,aF,aG,aH,aI,aJ,aK,aL,aM,aN,aO,aP,aQ,aR,aS,aT,aU,aV,aW,aX,aY,aZ,bA,bB,bC,bD,bE,bF,bG,bH,bI,bJ,bK,bL,bM,bN,bO,bP,bQ,bR,bS,bT,bU,bV,bW,bX,bY,bZ,cA,cB,cC,cD,cE,cF,cG,cH,cI,cJ,cK,cL,cM,cN,cO,cP,cQ,cR,cS,cT,cU,cV,cW] [] w = s49M0raw aA aB aC aD aE aF aG aH aI aJ aK aL aM aN aO aP aQ aR aS aT aU aV aW aX aY aZ bA bB bC bD bE bF bG bH bI bJ bK bL bM bN bO bP bQ bR bS bT bU bV bW bX bY bZ cA cB cC cD cE cF cG cH cI cJ cK cL cM cN cO cP cQ cR cS cT cU cV cW w := (show _ = evK Tryd.prog 49 none (nav [1, 1, 1, 1] (bodyOf Tryd.f49)) none _ ⟨[aA,aB,aC,aD,aE,aF,aG,aH,aI,aJ,aK,aL,aM,aN,aO,aP,aQ,aR,aS,aT,aU,aV,aW,aX,aY,aZ,bA,bB,bC,bD,bE,bF,bG,bH,bI,bJ,bK,bL,bM,bN,bO,bP,bQ,bR,bS,bT,bU,bV,bW,bX,bY,bZ,cA,cB,cC,cD,cE,cF,cG,cH,cI,cJ,cK,cL,cM,cN,cO,cP,cQ,cR,cS,cT,cU,cV,cW].toArray, []⟩ w (leaveK Tryd.prog Tryd.f49) from by kernel_rfl).trans (by kernel_rfl)
set_option maxRecDepth 100000 in
theorem s49J0of {w : World} {r : _} (h : s49M0 aA aB aF w = some r) : s49J0 [aA,aB,aC,aD,aE,aF,aG,aH,aI,aJ,aK,aL,aM,aN,aO,aP,aQ,aR,aS,aT,aU,aV,aW,aX,aY,aZ,bA,bB,bC,bD,bE,bF,bG,bH,bI,bJ,bK,bL,bM,bN,bO,bP,bQ,bR,bS,bT,bU,bV,bW,bX,bY,bZ,cA,cB,cC,cD,cE,cF,cG,cH,cI,cJ,cK,cL,cM,cN,cO,cP,cQ,cR,cS,cT,cU,cV,cW] [] w = some r :=
  ((s49J0eq w).trans ((Ev.bind_mono fun (_ : Value) => (s49L2of)) h))
set_option maxRecDepth 100000 in
theorem s49J1eq (w : World) : s49J1 [aA,aB,aC,aD,aE,aF,aG,aH,aI,aJ,aK,aL,aM,aN,aO,aP,aQ,aR,aS,aT,aU,aV,aW,aX,aY,aZ,bA,bB,bC,bD,bE,bF,bG,bH,bI,bJ,bK,bL,bM,bN,bO,bP,bQ,bR,bS,bT,bU,bV,bW,bX,bY,bZ,cA,cB,cC,cD,cE,cF,cG,cH,cI,cJ,cK,cL,cM,cN,cO,cP,cQ,cR,cS,cT,cU,cV,cW] [] w = s49M1raw aA aB aC aD aE aF aG aH aI aJ aK aL aM aN aO aP aQ aR aS aT aU aV aW aX aY aZ bA bB bC bD bE bF bG bH bI bJ bK bL bM bN bO bP bQ bR bS bT bU bV bW bX bY bZ cA cB cC cD cE cF cG cH cI cJ cK cL cM cN cO cP cQ cR cS cT cU cV cW w := (show _ = evK Tryd.prog 49 none (nav [1, 1, 1, 0, 1, 0, 1] (bodyOf Tryd.f49)) none _ ⟨[aA,aB,aC,aD,aE,aF,aG,aH,aI,aJ,aK,aL,aM,aN,aO,aP,aQ,aR,aS,aT,aU,aV,aW,aX,aY,aZ,bA,bB,bC,bD,bE,bF,bG,bH,bI,bJ,bK,bL,bM,bN,bO,bP,bQ,bR,bS,bT,bU,bV,bW,bX,bY,bZ,cA,cB,cC,cD,cE,cF,cG,cH,cI,cJ,cK,cL,cM,cN,cO,cP,cQ,cR,cS,cT,cU,cV,cW].toArray, []⟩ w s49K0 from by kernel_rfl).trans (by kernel_rfl)
set_option maxRecDepth 100000 in
theorem s49J1of {w : World} {r : _} (h : s49M1 aA aB aF w = some r) : s49J1 [aA,aB,aC,aD,aE,aF,aG,aH,aI,aJ,aK,aL,aM,aN,aO,aP,aQ,aR,aS,aT,aU,aV,aW,aX,aY,aZ,bA,bB,bC,bD,bE,bF,bG,bH,bI,bJ,bK,bL,bM,bN,bO,bP,bQ,bR,bS,bT,bU,bV,bW,bX,bY,bZ,cA,cB,cC,cD,cE,cF,cG,cH,cI,cJ,cK,cL,cM,cN,cO,cP,cQ,cR,cS,cT,cU,cV,cW] [] w = some r :=
  ((s49J1eq w).trans ((Ev.bind_mono fun (_ : Value) => (Ev.bind_mono fun (_ : Value) => (Ev.bind_mono fun (_ : Value) => (Ev.bind_mono fun (_ : Value) => (Ev.bind_mono fun (_ : Value) => (s49J0of)))))) h))
theorem s49eq (x0 x1 : Value) (w : World) : evK Tryd.prog 49 none (bodyOf Tryd.f49) none _ { tmps := (([x0, x1] : List Value) ++ List.replicate (75 - 2) undef).toArray, defers := [] } w (leaveK Tryd.prog Tryd.f49) = s49raw x0 x1 w := by kernel_rfl
set_option maxRecDepth 100000 in
theorem c49 {x0 x1 : Value} {w : World} {r : Value × World} (h : s49 x0 x1 w = some r) : C Tryd.prog 49 #[x0, x1] w = some r :=
  C_ev follows_all drawLaw (by kernel_rfl) Tryd.func49 (by rfl) ((s49eq x0 x1 w).trans (show s49raw x0 x1 w = some r from (Ev.bind_mono fun (_ : Value) => (Ev.bind_mono fun (_ : Value) => (condK_mono id (Ev.bind_mono fun (_ : Value) => (condK_mono id (Ev.bind_mono fun (_ : Value) => (Ev.bind_mono fun (_ : Value) => (condK_mono (Ev.bind_mono fun (_ : Value) => (Ev.bind_mono fun (_ : Value) => (Ev.bind_mono fun (_ : Value) => (Ev.bind_mono fun (_ : Value) => (Ev.bind_mono fun (_ : Value) => (condK_mono (fun h => by cases h) (s49J1of))))))) (s49J0of))))))))) h))
theorem e49 {x0 x1 : Value} {w : World} {Q : Value × World → Prop} (h : Brings (s49 x0 x1 w) Q) : Brings (Xcall Tryd.prog (Value.func (Fn.func 49) #[] #[]) #[x0, x1] w) Q :=
  h.call (Xcall_fn Tryd.func49 (by decide +kernel) (by rfl) _ _ _ w) fun _ h => c49 h

/-! slices.Clone[[]byte,byte] -/
noncomputable def s35 (x0 : Value) (w : World) : Option (Value × World) :=
  (Qbin Tryd.prog .eql 22 x0 (Value.slice none 0 0)).bind fun v857 =>
  condK v857 (
    some ((Value.slice none 0 0), w)
  ) (
    (XbuildSlice Tryd.prog 22 0 #[] w).bind fun r858 =>
    (Xbi Tryd.prog Go.Builtin.append #[22, 22] 22 #[r858.1, x0] r858.2).bind fun r859 =>
    some (r859.1, r859.2)
  )
theorem s35eq (x0 : Value) (w : World) : evK Tryd.prog 35 none (bodyOf Tryd.f35) none _ { tmps := (([x0] : List Value) ++ List.replicate (8 - 1) undef).toArray, defers := [] } w (leaveK Tryd.prog Tryd.f35) = s35 x0 w := by kernel_rfl
theorem c35 {x0 : Value} {w : World} {r : Value × World} (h : s35 x0 w = some r) : C Tryd.prog 35 #[x0] w = some r :=
  C_ev follows_all drawLaw (by kernel_rfl) Tryd.func35 (by rfl) ((s35eq x0 w).trans h)
theorem e35 {x0 : Value} {w : World} {Q : Value × World → Prop} (h : Brings (s35 x0 w) Q) : Brings (Xcall Tryd.prog (Value.func (Fn.func 35) #[] #[]) #[x0] w) Q :=
  h.call (Xcall_fn Tryd.func35 (by decide +kernel) (by rfl) _ _ _ w) fun _ h => c35 h

/-! slices.Concat[[]byte,byte] -/
noncomputable def s36K0 : Exit → Act → World → Option (Value × World) := seqK (fun a w => evK Tryd.prog 36 none (nav [1, 1, 1] (bodyOf Tryd.f36)) none _ a w (leaveK Tryd.prog Tryd.f36)) (leaveK Tryd.prog Tryd.f36)
noncomputable def s36K1 : Exit → Act → World → Option (Value × World) := blockK 0 s36K0
noncomputable def s36L0 (s : List Value) (d : List Deferred) (w : World) : Option (Value × World) := loopN Tryd.prog 36 none (nav [1, 1, 0, 1, 0, 0] (bodyOf Tryd.f36)) s36K1 s d w
noncomputable def s36K2 : Exit → Act → World → Option (Exit × List Value × World) := seqK (fun a w => evK Tryd.prog 36 none (nav [1, 1, 0, 1, 0, 0, 1, 1, 1] (bodyOf Tryd.f36)) none _ a w (projK [0, 3, 9, 10, 11])) (projK [0, 3, 9, 10, 11])
noncomputable def s36K3 : Exit → Act → World → Option (Exit × List Value × World) := blockK 1 s36K2
noncomputable def s36K4 : Exit → Act → World → Option (Value × World) := seqK (fun a w => evK Tryd.prog 36 none (nav [1, 1, 1, 1, 1] (bodyOf Tryd.f36)) none _ a w (leaveK Tryd.prog Tryd.f36)) (leaveK Tryd.prog Tryd.f36)
noncomputable def s36K5 : Exit → Act → World → Option (Value × World) := blockK 2 s36K4
noncomputable def s36L1 (s : List Value) (d : List Deferred) (w : World) : Option (Value × World) := loopN Tryd.prog 36 none (nav [1, 1, 1, 1, 0, 1, 0, 0] (bodyOf Tryd.f36)) s36K5 s d w
noncomputable def s36B1 : List Value → World → Option (Exit × List Value × World)
  | [x6, x25, x26, x27], w =>
    (Qbin Tryd.prog .lss 3 x27 x26).bind fun v870 =>
    condK v870 (
      (QindexAddr Tryd.prog 104 x25 x27 w).bind fun v871 =>
      (Qload Tryd.prog 22 v871 w).bind fun v872 =>
      (Xbi Tryd.prog Go.Builtin.append #[22, 22] 22 #[x6, v872] w).bind fun r873 =>
      (Qbin Tryd.prog .add 3 x27 (Value.int .i64 1)).bind fun v874 =>
      some (Exit.normal, [r873.1, x25, x26, v874], r873.2)
    ) (
      some ((Exit.exit 2), [x6, x25, x26, x27], w)
    )
  | _, _ => none
noncomputable def s36R1 : Exit → List Value → World → Option (Value × World)
  | (Exit.exit 2), [x6, _, _, _], w =>
    some (x6, w)
  | _, _, _ => none
noncomputable def s36B0raw (g : Nat → Value) (d : List Deferred) : List Value → World → Option (Exit × List Value × World)
  | [x0, x3, x9, x10, x11], w =>
    (Qbin Tryd.prog .lss 3 x11 x10).bind fun v861 =>
    condK v861 (
      (QindexAddr Tryd.prog 104 x9 x11 w).bind fun v862 =>
      (Qload Tryd.prog 22 v862 w).bind fun v863 =>
      (Qlen Tryd.prog #[22] 3 #[v863] w).bind fun v864 =>
      (Qbin Tryd.prog .add 3 x3 v864).bind fun v865 =>
      (Qbin Tryd.prog .lss 3 v865 (Value.int .i64 0)).bind fun v866 =>
      condK v866 (
        evK Tryd.prog 36 none (nav [1, 1, 0, 1, 0, 0, 1, 1, 0, 0, 1, 1, 1, 0] (bodyOf Tryd.f36)) none _ ⟨[x0, g 1,g 2, v865, g 4, v863, g 6,g 7,g 8, x9, x10, x11, v861, v862, v863, x3, v863, v864, v865, v865, v866, g 21,g 22,g 23,g 24,g 25,g 26,g 27,g 28,g 29,g 30,g 31,g 32,g 33,g 34,g 35].toArray, d⟩ w s36K3
      ) (
        (Qbin Tryd.prog .add 3 x11 (Value.int .i64 1)).bind fun v867 =>
        some (Exit.normal, [x0, v865, x9, x10, v867], w)
      )
    ) (
      some ((Exit.exit 0), [x0, x3, x9, x10, x11], w)
    )
  | _, _ => none
noncomputable def s36B0 : List Value → World → Option (Exit × List Value × World)
  | [x0, x3, x9, x10, x11], w =>
    (Qbin Tryd.prog .lss 3 x11 x10).bind fun v861 =>
    condK v861 (
      (QindexAddr Tryd.prog 104 x9 x11 w).bind fun v862 =>
      (Qload Tryd.prog 22 v862 w).bind fun v863 =>
      (Qlen Tryd.prog #[22] 3 #[v863] w).bind fun v864 =>
      (Qbin Tryd.prog .add 3 x3 v864).bind fun v865 =>
      (Qbin Tryd.prog .lss 3 v865 (Value.int .i64 0)).bind fun v866 =>
      condK v866 (
        none
      ) (
        (Qbin Tryd.prog .add 3 x11 (Value.int .i64 1)).bind fun v867 =>
        some (Exit.normal, [x0, v865, x9, x10, v867], w)
      )
    ) (
      some ((Exit.exit 0), [x0, x3, x9, x10, x11], w)
    )
  | _, _ => none
noncomputable def s36R0 : Exit → List Value → World → Option (Value × World)
  | (Exit.exit 0), [x0, x3, _, _, _], w =>
    (Xcall Tryd.prog (Value.func (Fn.func 50) #[] #[]) #[(Value.slice none 0 0), x3] w).bind fun r868 =>
    (Qlen Tryd.prog #[104] 3 #[x0] r868.2).bind fun v869 =>
    loopR s36B1 s36R1 [r868.1, x0, v869, (Value.int .i64 0)] r868.2
  | _, _, _ => none
noncomputable def s36R0x0raw (x0 x3 x9 x10 x11 : Value) (g : Nat → Value) (w : World) : Option (Value × World) :=
  (Xcall Tryd.prog (Value.func (Fn.func 50) #[] #[]) #[(Value.slice none 0 0), x3] w).bind fun r868 =>
  (Qlen Tryd.prog #[104] 3 #[x0] r868.2).bind fun v869 =>
  s36L1 [x0, g 1,g 2, x3, g 4,g 5, r868.1, g 7,g 8, x9, x10, x11, g 12,g 13,g 14,g 15,g 16,g 17,g 18,g 19,g 20,g 21,g 22, x3, r868.1, x0, v869, (Value.int .i64 0), g 28,g 29,g 30,g 31,g 32,g 33,g 34,g 35] [] r868.2
noncomputable def s36raw (x0 : Value) (w : World) : Option (Value × World) :=
  (Qlen Tryd.prog #[104] 3 #[x0] w).bind fun v860 =>
  s36L0 [x0, undef, (Value.slice none 0 0), (Value.int .i64 0), undef, undef, undef, undef, undef, x0, v860, (Value.int .i64 0), undef, undef, undef, undef, undef, undef, undef, undef, undef, undef, undef, undef, undef, undef, undef, undef, undef, undef, undef, undef, undef, undef, undef, undef] [] w
noncomputable def s36 (x0 : Value) (w : World) : Option (Value × World) :=
  (Qlen Tryd.prog #[104] 3 #[x0] w).bind fun v860 =>
  loopR s36B0 s36R0 [x0, (Value.int .i64 0), x0, v860, (Value.int .i64 0)] w
theorem s36B1eq (x6 x25 x26 x27 : Value) (w : World) (g : Nat → Value) (d : List Deferred) : evK Tryd.prog 36 none (nav [1, 1, 1, 1, 0, 1, 0, 0] (bodyOf Tryd.f36)) none _ (frm 36 (setL [6, 25, 26, 27] [x6, x25, x26, x27] g) d) w (projK [6, 25, 26, 27]) = s36B1 [x6, x25, x26, x27] w := by kernel_rfl
theorem s36R1x2eq (x6 x25 x26 x27 : Value) (g : Nat → Value) (w : World) : s36K5 (Exit.exit 2) (frm 36 (setL [6, 25, 26, 27] [x6, x25, x26, x27] g) []) w = s36R1 (Exit.exit 2) [x6, x25, x26, x27] w := by kernel_rfl
theorem s36R1of : ∀ (e : Exit) (xs : List Value) (w : World) (g : Nat → Value) (y : _), s36R1 e xs w = some y → s36K5 e (frm 36 (setL [6, 25, 26, 27] xs g) []) w = some y := by
  intro e xs w g y h
  unfold s36R1 at h
  split at h
  · exact (s36R1x2eq _ _ _ _ g _).trans h
  · cases h
set_option maxRecDepth 20000 in
theorem s36L1of {aA aB aC aD aE aF aG aH aI aJ aK aL aM aN aO aP aQ aR aS aT aU aV aW aX aY aZ bA bB bC bD bE bF bG bH bI bJ : Value} {w : World} {r : _} (h : loopR s36B1 s36R1 [aG,aZ,bA,bB] w = some r) : s36L1 [aA,aB,aC,aD,aE,aF,aG,aH,aI,aJ,aK,aL,aM,aN,aO,aP,aQ,aR,aS,aT,aU,aV,aW,aX,aY,aZ,bA,bB,bC,bD,bE,bF,bG,bH,bI,bJ] [] w = some r :=
  loopN_of (B := s36B1) (R := s36R1) (n := 36) (live := [6, 25, 26, 27]) (fun xs w g y hl h => match xs, hl, h with | [x6, x25, x26, x27], _, h => (s36B1eq x6 x25 x26 x27 w g []).trans h) (by kernel_rfl) (s36R1of) (fun i => ([aA,aB,aC,aD,aE,aF,aG,aH,aI,aJ,aK,aL,aM,aN,aO,aP,aQ,aR,aS,aT,aU,aV,aW,aX,aY,aZ,bA,bB,bC,bD,bE,bF,bG,bH,bI,bJ] : List Value).getD i undef) (by kernel_rfl) rfl h
theorem s36B0eq (x0 x3 x9 x10 x11 : Value) (w : World) (g : Nat → Value) (d : List Deferred) : evK Tryd.prog 36 none (nav [1, 1, 0, 1, 0, 0] (bodyOf Tryd.f36)) none _ (frm 36 (setL [0, 3, 9, 10, 11] [x0, x3, x9, x10, x11] g) d) w (projK [0, 3, 9, 10, 11]) = s36B0raw g d [x0, x3, x9, x10, x11] w := by kernel_rfl
theorem s36R0x0eq (x0 x3 x9 x10 x11 : Value) (g : Nat → Value) (w : World) : s36K1 (Exit.exit 0) (frm 36 (setL [0, 3, 9, 10, 11] [x0, x3, x9, x10, x11] g) []) w = s36R0x0raw x0 x3 x9 x10 x11 g w := by kernel_rfl
theorem s36R0of : ∀ (e : Exit) (xs : List Value) (w : World) (g : Nat → Value) (y : _), s36R0 e xs w = some y → s36K1 e (frm 36 (setL [0, 3, 9, 10, 11] xs g) []) w = some y := by
  intro e xs w g y h
  unfold s36R0 at h
  split at h
  · exact (s36R0x0eq _ _ _ _ _ g _).trans ((Ev.bind_mono fun (_ : Value × World) => (Ev.bind_mono fun (_ : Value) => (s36L1of))) h)
  · cases h
set_option maxRecDepth 20000 in
theorem s36L0of {aA aB aC aD aE aF aG aH aI aJ aK aL aM aN aO aP aQ aR aS aT aU aV aW aX aY aZ bA bB bC bD bE bF bG bH bI bJ : Value} {w : World} {r : _} (h : loopR s36B0 s36R0 [aA,aD,aJ,aK,aL] w = some r) : s36L0 [aA,aB,aC,aD,aE,aF,aG,aH,aI,aJ,aK,aL,aM,aN,aO,aP,aQ,aR,aS,aT,aU,aV,aW,aX,aY,aZ,bA,bB,bC,bD,bE,bF,bG,bH,bI,bJ] [] w = some r :=
  loopN_of (B := s36B0) (R := s36R0) (n := 36) (live := [0, 3, 9, 10, 11]) (fun xs w g y hl h => match xs, hl, h with | [x0, x3, x9, x10, x11], _, h => (s36B0eq x0 x3 x9 x10 x11 w g []).trans (show s36B0raw g [] [x0, x3, x9, x10, x11] w = some y from (Ev.bind_mono fun (_ : Value) => (condK_mono (Ev.bind_mono fun (_ : Value) => (Ev.bind_mono fun (_ : Value) => (Ev.bind_mono fun (_ : Value) => (Ev.bind_mono fun (_ : Value) => (Ev.bind_mono fun (_ : Value) => (condK_mono (fun h => by cases h) id)))))) id)) h)) (by kernel_rfl) (s36R0of) (fun i => ([aA,aB,aC,aD,aE,aF,aG,aH,aI,aJ,aK,aL,aM,aN,aO,aP,aQ,aR,aS,aT,aU,aV,aW,aX,aY,aZ,bA,bB,bC,bD,bE,bF,bG,bH,bI,bJ] : List Value).getD i undef) (by kernel_rfl) rfl h
theorem s36eq (x0 : Value) (w : World) : evK Tryd.prog 36 none (bodyOf Tryd.f36) none _ { tmps := (([x0] : List Value) ++ List.replicate (36 - 1) undef).toArray, defers := [] } w (leaveK Tryd.prog Tryd.f36) = s36raw x0 w := by kernel_rfl
theorem c36 {x0 : Value} {w : World} {r : Value × World} (h : s36 x0 w = some r) : C Tryd.prog 36 #[x0] w = some r :=
  C_ev follows_all drawLaw (by kernel_rfl) Tryd.func36 (by rfl) ((s36eq x0 w).trans (show s36raw x0 w = some r from (Ev.bind_mono fun (_ : Value) => (s36L0of)) h))
theorem e36 {x0 : Value} {w : World} {Q : Value × World → Prop} (h : Brings (s36 x0 w) Q) : Brings (Xcall Tryd.prog (Value.func (Fn.func 36) #[] #[]) #[x0] w) Q :=
  h.call (Xcall_fn Tryd.func36 (by decide +kernel) (by rfl) _ _ _ w) fun _ h => c36 h

/-! slices.Grow[[]byte,byte] -/
noncomputable def s50K0 : Exit → Act → World → Option (Value × World) := seqK (fun a w => evK Tryd.prog 50 none (nav [1, 1] (bodyOf Tryd.f50)) none _ a w (leaveK Tryd.prog Tryd.f50)) (leaveK Tryd.prog Tryd.f50)
noncomputable def s50J0 (s : List Value) (d : List Deferred) (w : World) : Option (Value × World) := s50K0 .normal ⟨s.toArray, d⟩ w
noncomputable def s50M0 (s0 s1 : Value) (w : World) : Option (Value × World) :=
  (Qcap Tryd.prog #[22] 3 #[s0] w).bind fun v876 =>
  (Qlen Tryd.prog #[22] 3 #[s0] w).bind fun v877 =>
  (Qbin Tryd.prog .sub 3 v876 v877).bind fun v878 =>
  (Qbin Tryd.prog .sub 3 s1 v878).bind fun v879 =>
  (Qbin Tryd.prog .gtr 3 v879 (Value.int .i64 0)).bind fun v880 =>
  condK v880 (
    (Qcap Tryd.prog #[22] 3 #[s0] w).bind fun v881 =>
    (Qslice Tryd.prog 22 s0 none (some v881) none w).bind fun v882 =>
    (Xbi Tryd.prog Go.Builtin.append #[22, 3] 22 #[v882, v879] w).bind fun r883 =>
    (Qlen Tryd.prog #[22] 3 #[s0] r883.2).bind fun v884 =>
    (Qslice Tryd.prog 22 r883.1 none (some v884) none r883.2).bind fun v885 =>
    some (v885, r883.2)
  ) (
    some (s0, w)
  )
noncomputable def s50raw (x0 x1 : Value) (w : World) : Option (Value × World) :=
  (Qbin Tryd.prog .lss 3 x1 (Value.int .i64 0)).bind fun v875 =>
  condK v875 (
    evK Tryd.prog 50 none (nav [1, 0, 1, 0] (bodyOf Tryd.f50)) none _ ⟨[x0, x1, undef, undef, (Value.slice none 0 0), x1, v875, undef, undef, undef, undef, undef, undef, undef, undef, undef, undef, undef, undef, undef, undef, undef, undef, undef, undef, undef, undef].toArray, []⟩ w s50K0
  ) (
    s50J0 [x0, x1, undef, undef, (Value.slice none 0 0), x1, v875, undef, undef, undef, undef, undef, undef, undef, undef, undef, undef, undef, undef, undef, undef, undef, undef, undef, undef, undef, undef] [] w
  )
noncomputable def s50 (x0 x1 : Value) (w : World) : Option (Value × World) :=
  (Qbin Tryd.prog .lss 3 x1 (Value.int .i64 0)).bind fun v875 =>
  condK v875 (
    none
  ) (
    s50M0 x0 x1 w
  )
theorem s50J0eq (w : World) : s50J0 [aA,aB,aC,aD,aE,aF,aG,aH,aI,aJ,aK,aL,aM,aN,aO,aP,aQ,aR,aS,aT,aU,aV,aW,aX,aY,aZ,bA] [] w = s50M0 aA aB w := (show _ = evK Tryd.prog 50 none (nav [1, 1] (bodyOf Tryd.f50)) none _ ⟨[aA,aB,aC,aD,aE,aF,aG,aH,aI,aJ,aK,aL,aM,aN,aO,aP,aQ,aR,aS,aT,aU,aV,aW,aX,aY,aZ,bA].toArray, []⟩ w (leaveK Tryd.prog Tryd.f50) from by kernel_rfl).trans (by kernel_rfl)
theorem s50J0of {w : World} {r : _} (h : s50M0 aA aB w = some r) : s50J0 [aA,aB,aC,aD,aE,aF,aG,aH,aI,aJ,aK,aL,aM,aN,aO,aP,aQ,aR,aS,aT,aU,aV,aW,aX,aY,aZ,bA] [] w = some r :=
  ((s50J0eq w).trans h)
theorem s50eq (x0 x1 : Value) (w : World) : evK Tryd.prog 50 none (bodyOf Tryd.f50) none _ { tmps := (([x0, x1] : List Value) ++ List.replicate (27 - 2) undef).toArray, defers := [] } w (leaveK Tryd.prog Tryd.f50) = s50raw x0 x1 w := by kernel_rfl
theorem c50 {x0 x1 : Value} {w : World} {r : Value × World} (h : s50 x0 x1 w = some r) : C Tryd.prog 50 #[x0, x1] w = some r :=
  C_ev follows_all drawLaw (by kernel_rfl) Tryd.func50 (by rfl) ((s50eq x0 x1 w).trans (show s50raw x0 x1 w = some r from (Ev.bind_mono fun (_ : Value) => (condK_mono (fun h => by cases h) (s50J0of))) h))
theorem e50 {x0 x1 : Value} {w : World} {Q : Value × World → Prop} (h : Brings (s50 x0 x1 w) Q) : Brings (Xcall Tryd.prog (Value.func (Fn.func 50) #[] #[]) #[x0, x1] w) Q :=
  h.call (Xcall_fn Tryd.func50 (by decide +kernel) (by rfl) _ _ _ w) fun _ h => c50 h

/-! bytes.IndexByte -/
noncomputable def s45 (x0 x1 : Value) (w : World) : Option (Value × World) :=
  (Xcall Tryd.prog (Value.func (Fn.func 65) #[] #[]) #[x0, x1] w).bind fun r886 =>
  some (r886.1, r886.2)
theorem s45eq (x0 x1 : Value) (w : World) : evK Tryd.prog 45 none (bodyOf Tryd.f45) none _ { tmps := (([x0, x1] : List Value) ++ List.replicate (8 - 2) undef).toArray, defers := [] } w (leaveK Tryd.prog Tryd.f45) = s45 x0 x1 w := by kernel_rfl
theorem c45 {x0 x1 : Value} {w : World} {r : Value × World} (h : s45 x0 x1 w = some r) : C Tryd.prog 45 #[x0, x1] w = some r :=
  C_ev follows_all drawLaw (by kernel_rfl) Tryd.func45 (by rfl) ((s45eq x0 x1 w).trans h)
theorem e45 {x0 x1 : Value} {w : World} {Q : Value × World → Prop} (h : Brings (s45 x0 x1 w) Q) : Brings (Xcall Tryd.prog (Value.func (Fn.func 45) #[] #[]) #[x0, x1] w) Q :=
  h.call (Xcall_fn Tryd.func45 (by decide +kernel) (by rfl) _ _ _ w) fun _ h => c45 h

/-! lychgate/ftp.line -/
noncomputable def s19 (x0 : Value) (w : World) : Option (Value × World) :=
  (XbuildSlice Tryd.prog 22 2 #[(0, (Value.int .u8 13)), (1, (Value.int .u8 10))] w).bind fun r887 =>
  (Xconv Tryd.prog 22 22 r887.1 r887.2).bind fun r888 =>
  (Xcall Tryd.prog (Value.func (Fn.func 40) #[] #[]) #[x0, r888.1] r888.2).bind fun r889 =>
  (Qext r889.1 0).bind fun v890 =>
  (Qext r889.1 1).bind fun v891 =>
  (guardQ v891 true (Qlen Tryd.prog #[22] 3 #[(gv (isB v891 true) x0)] r889.2)).bind fun v892 =>
  (guardQ v891 true (Qbin Tryd.prog .leq 3 v892 (Value.int .i64 128))).bind fun v893 =>
  (Qpick v891 v893 (Value.bool false)).bind fun v894 =>
  (guardX v894 true r889.2 (Xcall Tryd.prog (Value.func (Fn.func 41) #[] #[]) #[(gv (isB v894 true) v890), (Value.string { data := #[13, 10] })] r889.2)).bind fun r895 =>
  (guardQ v894 true (Qun .not r895.1)).bind fun v896 =>
  (Qpick v894 v896 (Value.bool false)).bind fun v897 =>
  some ((Value.tuple #[v890, v897]), r895.2)
theorem s19eq (x0 : Value) (w : World) : evK Tryd.prog 19 none (bodyOf Tryd.f19) none _ { tmps := (([x0] : List Value) ++ List.replicate (25 - 1) undef).toArray, defers := [] } w (leaveK Tryd.prog Tryd.f19) = s19 x0 w := by kernel_rfl
theorem c19 {x0 : Value} {w : World} {r : Value × World} (h : s19 x0 w = some r) : C Tryd.prog 19 #[x0] w = some r :=
  C_ev follows_all drawLaw (by kernel_rfl) Tryd.func19 (by rfl) ((s19eq x0 w).trans h)
theorem e19 {x0 : Value} {w : World} {Q : Value × World → Prop} (h : Brings (s19 x0 w) Q) : Brings (Xcall Tryd.prog (Value.func (Fn.func 19) #[] #[]) #[x0] w) Q :=
  h.call (Xcall_fn Tryd.func19 (by decide +kernel) (by rfl) _ _ _ w) fun _ h => c19 h

/-! lychgate/ftp.Find$1 -/
noncomputable def s20 (x0 : Value) (w : World) : Option (Value × World) :=
  (Qload Tryd.prog 22 x0 w).bind fun v898 =>
  (Qbuild Tryd.prog 57 #[(0, v898)] w).bind fun v899 =>
  (Qbuild Tryd.prog 59 #[(0, v899)] w).bind fun v900 =>
  (Xbox Tryd.prog 59 v900 w).bind fun r901 =>
  some (r901.1, r901.2)
theorem s20eq (x0 : Value) (w : World) : evK Tryd.prog 20 none (bodyOf Tryd.f20) none _ { tmps := (([x0] : List Value) ++ List.replicate (6 - 1) undef).toArray, defers := [] } w (leaveK Tryd.prog Tryd.f20) = s20 x0 w := by kernel_rfl
theorem c20 {x0 : Value} {w : World} {r : Value × World} (h : s20 x0 w = some r) : C Tryd.prog 20 #[x0] w = some r :=
  C_ev follows_all drawLaw (by kernel_rfl) Tryd.func20 (by rfl) ((s20eq x0 w).trans h)
theorem e20 {x0 : Value} {w : World} {Q : Value × World → Prop} (h : Brings (s20 x0 w) Q) : Brings (Xcall Tryd.prog (Value.func (Fn.func 20) #[] #[x0]) #[] w) Q :=
  h.call (Xcall_fn Tryd.func20 (by decide +kernel) (by rfl) _ _ _ w) fun _ h => c20 h

/-! (*lychgate/ftp.reader).eat -/
noncomputable def s21K0 : Exit → Act → World → Option (Value × World) := seqK (fun a w => evK Tryd.prog 21 none (nav [1, 1, 1, 1] (bodyOf Tryd.f21)) none _ a w (leaveK Tryd.prog Tryd.f21)) (leaveK Tryd.prog Tryd.f21)
noncomputable def s21J0 (s : List Value) (d : List Deferred) (w : World) : Option (Value × World) := s21K0 .normal ⟨s.toArray, d⟩ w
noncomputable def s21M0 (s0 : Value) (w : World) : Option (Value × World) :=
  (Qnil s0).bind fun v941 =>
  (QfieldAddr Tryd.prog 59 v941 1).bind fun v942 =>
  (Qload Tryd.prog 4 v942 w).bind fun v943 =>
  (Qun .not v943).bind fun v944 =>
  some (v944, w)
noncomputable def s21raw (x0 x1 : Value) (w : World) : Option (Value × World) :=
  (Qnil x0).bind fun v902 =>
  (QfieldAddr Tryd.prog 59 v902 0).bind fun v903 =>
  (QfieldAddr Tryd.prog 57 v903 1).bind fun v904 =>
  (Qload Tryd.prog 3 v904 w.drew).bind fun v905 =>
  (Qlen Tryd.prog #[9] 3 #[x1] w.drew).bind fun v906 =>
  (Qbin Tryd.prog .add 3 v905 v906).bind fun v907 =>
  (Qnil x0).bind fun v908 =>
  (QfieldAddr Tryd.prog 59 v908 0).bind fun v909 =>
  (QfieldAddr Tryd.prog 57 v909 0).bind fun v910 =>
  (Qload Tryd.prog 22 v910 w.drew).bind fun v911 =>
  (Qlen Tryd.prog #[22] 3 #[v911] w.drew).bind fun v912 =>
  (Xbi Tryd.prog Go.Builtin.min #[3, 3] 3 #[v907, v912] w.drew).bind fun r913 =>
  chkK True (
    (Qnil x0).bind fun v914 =>
    (QfieldAddr Tryd.prog 59 v914 0).bind fun v915 =>
    (QfieldAddr Tryd.prog 57 v915 0).bind fun v916 =>
    (Qload Tryd.prog 22 v916 r913.2.drew).bind fun v917 =>
    (Qnil x0).bind fun v918 =>
    (QfieldAddr Tryd.prog 59 v918 0).bind fun v919 =>
    (QfieldAddr Tryd.prog 57 v919 1).bind fun v920 =>
    (Qload Tryd.prog 3 v920 r913.2.drew).bind fun v921 =>
    (Qslice Tryd.prog 22 v917 (some v921) (some r913.1) none r913.2.drew).bind fun v922 =>
    (Xconv Tryd.prog 22 9 v922 r913.2.drew).bind fun r923 =>
    (Xcall Tryd.prog (Value.func (Fn.func 42) #[] #[]) #[(Value.func (Fn.func 43) #[] #[]), r923.1] r923.2).bind fun r924 =>
    chkK True (
      (Qnil x0).bind fun v925 =>
      (QfieldAddr Tryd.prog 59 v925 1).bind fun v926 =>
      (Qload Tryd.prog 4 v926 r924.2).bind fun v927 =>
      (guardQ v927 false (Qbin Tryd.prog .neq 9 (gv (isB v927 false) r924.1) (gv (isB v927 false) x1))).bind fun v928 =>
      (Qpick v927 (Value.bool true) v928).bind fun v929 =>
      (Qnil x0).bind fun v930 =>
      (QfieldAddr Tryd.prog 59 v930 1).bind fun v931 =>
      (Xstore Tryd.prog 4 v931 v929 r924.2).bind fun r932 =>
      (Qnil x0).bind fun v933 =>
      (QfieldAddr Tryd.prog 59 v933 1).bind fun v934 =>
      (Qload Tryd.prog 4 v934 r932.2).bind fun v935 =>
      (Qun .not v935).bind fun v936 =>
      condK v936 (
        (Qnil x0).bind fun v937 =>
        (QfieldAddr Tryd.prog 59 v937 0).bind fun v938 =>
        (QfieldAddr Tryd.prog 57 v938 1).bind fun v939 =>
        (Xstore Tryd.prog 3 v939 r913.1 r932.2).bind fun r940 =>
        s21J0 [x0, x1, undef, undef, (Value.bool false), r913.1, r924.1, x0, v902, v903, v904, v905, x1, v906, v907, x0, v908, v909, v910, v911, v912, r913.1, x0, v914, v915, v916, v917, x0, v918, v919, v920, v921, r913.1, v922, r923.1, r924.1, x0, x0, v925, v926, v927, v927, (gv (isB v927 false) r924.1), (gv (isB v927 false) x1), v928, v929, v930, v931, x0, v933, v934, v935, v936, x0, r913.1, v937, v938, v939, undef, undef, undef, undef, undef] [] r940.2
      ) (
        s21J0 [x0, x1, undef, undef, (Value.bool false), r913.1, r924.1, x0, v902, v903, v904, v905, x1, v906, v907, x0, v908, v909, v910, v911, v912, r913.1, x0, v914, v915, v916, v917, x0, v918, v919, v920, v921, r913.1, v922, r923.1, r924.1, x0, x0, v925, v926, v927, v927, (gv (isB v927 false) r924.1), (gv (isB v927 false) x1), v928, v929, v930, v931, x0, v933, v934, v935, v936, undef, undef, undef, undef, undef, undef, undef, undef, undef, undef] [] r932.2
      )
    )
  )
noncomputable def s21 (x0 x1 : Value) (w : World) : Option (Value × World) :=
  (Qnil x0).bind fun v902 =>
  (QfieldAddr Tryd.prog 59 v902 0).bind fun v903 =>
  (QfieldAddr Tryd.prog 57 v903 1).bind fun v904 =>
  (Qload Tryd.prog 3 v904 w.drew).bind fun v905 =>
  (Qlen Tryd.prog #[9] 3 #[x1] w.drew).bind fun v906 =>
  (Qbin Tryd.prog .add 3 v905 v906).bind fun v907 =>
  (Qnil x0).bind fun v908 =>
  (QfieldAddr Tryd.prog 59 v908 0).bind fun v909 =>
  (QfieldAddr Tryd.prog 57 v909 0).bind fun v910 =>
  (Qload Tryd.prog 22 v910 w.drew).bind fun v911 =>
  (Qlen Tryd.prog #[22] 3 #[v911] w.drew).bind fun v912 =>
  (Xbi Tryd.prog Go.Builtin.min #[3, 3] 3 #[v907, v912] w.drew).bind fun r913 =>
  chkK True (
    (Qnil x0).bind fun v914 =>
    (QfieldAddr Tryd.prog 59 v914 0).bind fun v915 =>
    (QfieldAddr Tryd.prog 57 v915 0).bind fun v916 =>
    (Qload Tryd.prog 22 v916 r913.2.drew).bind fun v917 =>
    (Qnil x0).bind fun v918 =>
    (QfieldAddr Tryd.prog 59 v918 0).bind fun v919 =>
    (QfieldAddr Tryd.prog 57 v919 1).bind fun v920 =>
    (Qload Tryd.prog 3 v920 r913.2.drew).bind fun v921 =>
    (Qslice Tryd.prog 22 v917 (some v921) (some r913.1) none r913.2.drew).bind fun v922 =>
    (Xconv Tryd.prog 22 9 v922 r913.2.drew).bind fun r923 =>
    (Xcall Tryd.prog (Value.func (Fn.func 42) #[] #[]) #[(Value.func (Fn.func 43) #[] #[]), r923.1] r923.2).bind fun r924 =>
    chkK True (
      (Qnil x0).bind fun v925 =>
      (QfieldAddr Tryd.prog 59 v925 1).bind fun v926 =>
      (Qload Tryd.prog 4 v926 r924.2).bind fun v927 =>
      (guardQ v927 false (Qbin Tryd.prog .neq 9 (gv (isB v927 false) r924.1) (gv (isB v927 false) x1))).bind fun v928 =>
      (Qpick v927 (Value.bool true) v928).bind fun v929 =>
      (Qnil x0).bind fun v930 =>
      (QfieldAddr Tryd.prog 59 v930 1).bind fun v931 =>
      (Xstore Tryd.prog 4 v931 v929 r924.2).bind fun r932 =>
      (Qnil x0).bind fun v933 =>
      (QfieldAddr Tryd.prog 59 v933 1).bind fun v934 =>
      (Qload Tryd.prog 4 v934 r932.2).bind fun v935 =>
      (Qun .not v935).bind fun v936 =>
      condK v936 (
        (Qnil x0).bind fun v937 =>
        (QfieldAddr Tryd.prog 59 v937 0).bind fun v938 =>
        (QfieldAddr Tryd.prog 57 v938 1).bind fun v939 =>
        (Xstore Tryd.prog 3 v939 r913.1 r932.2).bind fun r940 =>
        s21M0 x0 r940.2
      ) (
        s21M0 x0 r932.2
      )
    )
  )
set_option maxRecDepth 100000 in
theorem s21J0eq (w : World) : s21J0 [aA,aB,aC,aD,aE,aF,aG,aH,aI,aJ,aK,aL,aM,aN,aO,aP,aQ,aR,aS,aT,aU,aV,aW,aX,aY,aZ,bA,bB,bC,bD,bE,bF,bG,bH,bI,bJ,bK,bL,bM,bN,bO,bP,bQ,bR,bS,bT,bU,bV,bW,bX,bY,bZ,cA,cB,cC,cD,cE,cF,cG,cH,cI,cJ,cK] [] w = s21M0 aA w := (show _ = evK Tryd.prog 21 none (nav [1, 1, 1, 1] (bodyOf Tryd.f21)) none _ ⟨[aA,aB,aC,aD,aE,aF,aG,aH,aI,aJ,aK,aL,aM,aN,aO,aP,aQ,aR,aS,aT,aU,aV,aW,aX,aY,aZ,bA,bB,bC,bD,bE,bF,bG,bH,bI,bJ,bK,bL,bM,bN,bO,bP,bQ,bR,bS,bT,bU,bV,bW,bX,bY,bZ,cA,cB,cC,cD,cE,cF,cG,cH,cI,cJ,cK].toArray, []⟩ w (leaveK Tryd.prog Tryd.f21) from by kernel_rfl).trans (by kernel_rfl)
set_option maxRecDepth 100000 in
theorem s21J0of {w : World} {r : _} (h : s21M0 aA w = some r) : s21J0 [aA,aB,aC,aD,aE,aF,aG,aH,aI,aJ,aK,aL,aM,aN,aO,aP,aQ,aR,aS,aT,aU,aV,aW,aX,aY,aZ,bA,bB,bC,bD,bE,bF,bG,bH,bI,bJ,bK,bL,bM,bN,bO,bP,bQ,bR,bS,bT,bU,bV,bW,bX,bY,bZ,cA,cB,cC,cD,cE,cF,cG,cH,cI,cJ,cK] [] w = some r :=
  ((s21J0eq w).trans h)
theorem s21eq (x0 x1 : Value) (w : World) : evK Tryd.prog 21 none (bodyOf Tryd.f21) none _ { tmps := (([x0, x1] : List Value) ++ List.replicate (63 - 2) undef).toArray, defers := [] } w (leaveK Tryd.prog Tryd.f21) = s21raw x0 x1 w := by kernel_rfl
set_option maxRecDepth 100000 in
theorem c21 {x0 x1 : Value} {w : World} {r : Value × World} (h : s21 x0 x1 w = some r) : C Tryd.prog 21 #[x0, x1] w = some r :=
  C_ev follows_all drawLaw (by kernel_rfl) Tryd.func21 (by rfl) ((s21eq x0 x1 w).trans (show s21raw x0 x1 w = some r from (Ev.bind_mono fun (_ : Value) => (Ev.bind_mono fun (_ : Value) => (Ev.bind_mono fun (_ : Value) => (Ev.bind_mono fun (_ : Value) => (Ev.bind_mono fun (_ : Value) => (Ev.bind_mono fun (_ : Value) => (Ev.bind_mono fun (_ : Value) => (Ev.bind_mono fun (_ : Value) => (Ev.bind_mono fun (_ : Value) => (Ev.bind_mono fun (_ : Value) => (Ev.bind_mono fun (_ : Value) => (Ev.bind_mono fun (_ : Value × World) => (chkK_mono (Ev.bind_mono fun (_ : Value) => (Ev.bind_mono fun (_ : Value) => (Ev.bind_mono fun (_ : Value) => (Ev.bind_mono fun (_ : Value) => (Ev.bind_mono fun (_ : Value) => (Ev.bind_mono fun (_ : Value) => (Ev.bind_mono fun (_ : Value) => (Ev.bind_mono fun (_ : Value) => (Ev.bind_mono fun (_ : Value) => (Ev.bind_mono fun (_ : Value × World) => (Ev.bind_mono fun (_ : Value × World) => (chkK_mono (Ev.bind_mono fun (_ : Value) => (Ev.bind_mono fun (_ : Value) => (Ev.bind_mono fun (_ : Value) => (Ev.bind_mono fun (_ : Value) => (Ev.bind_mono fun (_ : Value) => (Ev.bind_mono fun (_ : Value) => (Ev.bind_mono fun (_ : Value) => (Ev.bind_mono fun (_ : Value × World) => (Ev.bind_mono fun (_ : Value) => (Ev.bind_mono fun (_ : Value) => (Ev.bind_mono fun (_ : Value) => (Ev.bind_mono fun (_ : Value) => (condK_mono (Ev.bind_mono fun (_ : Value) => (Ev.bind_mono fun (_ : Value) => (Ev.bind_mono fun (_ : Value) => (Ev.bind_mono fun (_ : Value × World) => (s21J0of))))) (s21J0of))))))))))))))))))))))))))))))))))))))) h))
theorem e21 {x0 x1 : Value} {w : World} {Q : Value × World → Prop} (h : Brings (s21 x0 x1 w) Q) : Brings (Xcall Tryd.prog (Value.func (Fn.func 21) #[] #[]) #[x0, x1] w) Q :=
  h.call (Xcall_fn Tryd.func21 (by decide +kernel) (by rfl) _ _ _ w) fun _ h => c21 h

/-! (*lychgate/ftp.reader).six -/
noncomputable def s22 (x0 x1 : Value) (w : World) : Option (Value × World) :=
  (Xalloc Tryd.prog 27 w).bind fun r945 =>
  (Qnil x0).bind fun v946 =>
  (QfieldAddr Tryd.prog 59 v946 0).bind fun v947 =>
  (QfieldAddr Tryd.prog 57 v947 1).bind fun v948 =>
  (Qload Tryd.prog 3 v948 r945.2).bind fun v949 =>
  (Qbuild Tryd.prog 27 #[(0, x1), (1, v949)] r945.2).bind fun v950 =>
  (Xalloc Tryd.prog 27 r945.2).bind fun r951 =>
  (Xstore Tryd.prog 27 r951.1 v950 r951.2).bind fun r952 =>
  (Xcall Tryd.prog (Value.func (Fn.func 23) #[] #[]) #[x0, (Value.int .i64 6), (Value.string { data := #[44] })] r952.2).bind fun r953 =>
  (Qnil x0).bind fun v954 =>
  (QfieldAddr Tryd.prog 59 v954 0).bind fun v955 =>
  (QfieldAddr Tryd.prog 57 v955 1).bind fun v956 =>
  (Qload Tryd.prog 3 v956 r953.2).bind fun v957 =>
  (Qbin Tryd.prog .shr 63 r953.1 (Value.int .u64 16)).bind fun v958 =>
  (Qconv Tryd.prog 63 24 v958).bind fun v959 =>
  (Qconv Tryd.prog 63 25 r953.1).bind fun v960 =>
  (QfieldAddr Tryd.prog 27 r951.1 2).bind fun v961 =>
  (Xstore Tryd.prog 3 v961 v957 r953.2).bind fun r962 =>
  (QfieldAddr Tryd.prog 27 r951.1 3).bind fun v963 =>
  (Xstore Tryd.prog 24 v963 v959 r962.2).bind fun r964 =>
  (QfieldAddr Tryd.prog 27 r951.1 4).bind fun v965 =>
  (Xstore Tryd.prog 25 v965 v960 r964.2).bind fun r966 =>
  (Qnil x0).bind fun v967 =>
  (QfieldAddr Tryd.prog 59 v967 1).bind fun v968 =>
  (Qload Tryd.prog 4 v968 r966.2).bind fun v969 =>
  (guardQ v969 false (QfieldAddr Tryd.prog 27 r951.1 4)).bind fun v970 =>
  (guardQ v969 false (Qload Tryd.prog 25 v970 r966.2)).bind fun v971 =>
  (guardQ v969 false (Qbin Tryd.prog .eql 25 v971 (Value.int .u16 0))).bind fun v972 =>
  (Qpick v969 (Value.bool true) v972).bind fun v973 =>
  (Qnil x0).bind fun v974 =>
  (QfieldAddr Tryd.prog 59 v974 1).bind fun v975 =>
  (Xstore Tryd.prog 4 v975 v973 r966.2).bind fun r976 =>
  (Qload Tryd.prog 27 r951.1 r976.2).bind fun v977 =>
  (Xstore Tryd.prog 27 r945.1 v977 r976.2).bind fun r978 =>
  ((((Qload Tryd.prog 27 r945.1 r978.2).bind fun v => ((some [])).map fun vs => v :: vs)).map oneOf).map fun v => (v, r978.2)
theorem s22eq (x0 x1 : Value) (w : World) : evK Tryd.prog 22 none (bodyOf Tryd.f22) none _ { tmps := (([x0, x1] : List Value) ++ List.replicate (42 - 2) undef).toArray, defers := [] } w (leaveK Tryd.prog Tryd.f22) = s22 x0 x1 w := by kernel_rfl
theorem c22 {x0 x1 : Value} {w : World} {r : Value × World} (h : s22 x0 x1 w = some r) : C Tryd.prog 22 #[x0, x1] w = some r :=
  C_ev follows_all drawLaw (by kernel_rfl) Tryd.func22 (by rfl) ((s22eq x0 x1 w).trans h)
theorem e22 {x0 x1 : Value} {w : World} {Q : Value × World → Prop} (h : Brings (s22 x0 x1 w) Q) : Brings (Xcall Tryd.prog (Value.func (Fn.func 22) #[] #[]) #[x0, x1] w) Q :=
  h.call (Xcall_fn Tryd.func22 (by decide +kernel) (by rfl) _ _ _ w) fun _ h => c22 h

/-! (*lychgate/ftp.reader).bytes -/
noncomputable def s23K0 : Exit → Act → World → Option (Value × World) := seqK (fun a w => evK Tryd.prog 23 none (nav [1, 1, 1] (bodyOf Tryd.f23)) none _ a w (leaveK Tryd.prog Tryd.f23)) (leaveK Tryd.prog Tryd.f23)
noncomputable def s23K1 : Exit → Act → World → Option (Value × World) := blockK 0 s23K0
noncomputable def s23L0 (s : List Value) (d : List Deferred) (w : World) : Option (Value × World) := loopN Tryd.prog 23 none (nav [1, 1, 0, 1, 0, 0] (bodyOf Tryd.f23)) s23K1 s d w
noncomputable def s23K2 : Exit → Act → World → Option (Exit × List Value × World) := seqK (fun a w => evK Tryd.prog 23 none (nav [1, 1, 0, 1, 0, 0, 1, 1, 1] (bodyOf Tryd.f23)) none _ a w (projK [0, 2, 7, 9, 10])) (projK [0, 2, 7, 9, 10])
noncomputable def s23K3 : Exit → Act → World → Option (Exit × List Value × World) := blockK 1 s23K2
noncomputable def s23K4 : Exit → Act → World → Option (Exit × List Value × World) := seqK (fun a w => evK Tryd.prog 23 none (nav [1, 1, 0, 1, 0, 0, 1, 1, 0, 0, 1, 1] (bodyOf Tryd.f23)) none _ a w s23K3) s23K3
noncomputable def s23J1 (s : List Value) (d : List Deferred) (w : World) : Option (Exit × List Value × World) := s23K4 .normal ⟨s.toArray, d⟩ w
noncomputable def s23M1 (s0 s2 s7 s9 s10 : Value) (w : World) : Option (Exit × List Value × World) :=
  (Qbin Tryd.prog .shl 63 s7 (Value.int .u64 8)).bind fun v982 =>
  (Xcall Tryd.prog (Value.func (Fn.func 24) #[] #[]) #[s0, (Value.int .i64 0), (Value.int .i64 255)] w).bind fun r983 =>
  (Qconv Tryd.prog 3 63 r983.1).bind fun v984 =>
  (Qbin Tryd.prog .or 63 v982 v984).bind fun v985 =>
  (Qbin Tryd.prog .add 3 s10 (Value.int .i64 1)).bind fun v986 =>
  some (Exit.normal, [s0, s2, v985, s9, v986], r983.2)
noncomputable def s23B0raw (g : Nat → Value) (d : List Deferred) : List Value → World → Option (Exit × List Value × World)
  | [x0, x2, x7, x9, x10], w =>
    (Qbin Tryd.prog .lss 3 x10 x9).bind fun v979 =>
    condK v979 (
      (Qbin Tryd.prog .gtr 3 x10 (Value.int .i64 0)).bind fun v980 =>
      condK v980 (
        (Xcall Tryd.prog (Value.func (Fn.func 21) #[] #[]) #[x0, x2] w).bind fun r981 =>
        s23J1 [x0, g 1, x2, g 3,g 4,g 5,g 6, x7, x10, x9, x10, v979, x10, x10, v980, x0, x2, r981.1, g 18,g 19,g 20,g 21,g 22,g 23,g 24,g 25] d r981.2
      ) (
        s23J1 [x0, g 1, x2, g 3,g 4,g 5,g 6, x7, x10, x9, x10, v979, x10, x10, v980, g 15,g 16,g 17,g 18,g 19,g 20,g 21,g 22,g 23,g 24,g 25] d w
      )
    ) (
      some ((Exit.exit 0), [x0, x2, x7, x9, x10], w)
    )
  | _, _ => none
noncomputable def s23B0 : List Value → World → Option (Exit × List Value × World)
  | [x0, x2, x7, x9, x10], w =>
    (Qbin Tryd.prog .lss 3 x10 x9).bind fun v979 =>
    condK v979 (
      (Qbin Tryd.prog .gtr 3 x10 (Value.int .i64 0)).bind fun v980 =>
      condK v980 (
        (Xcall Tryd.prog (Value.func (Fn.func 21) #[] #[]) #[x0, x2] w).bind fun r981 =>
        s23M1 x0 x2 x7 x9 x10 r981.2
      ) (
        s23M1 x0 x2 x7 x9 x10 w
      )
    ) (
      some ((Exit.exit 0), [x0, x2, x7, x9, x10], w)
    )
  | _, _ => none
noncomputable def s23R0 : Exit → List Value → World → Option (Value × World)
  | (Exit.exit 0), [_, _, x7, _, _], w =>
    some (x7, w)
  | _, _, _ => none
noncomputable def s23raw (x0 x1 x2 : Value) (w : World) : Option (Value × World) :=
  s23L0 [x0, x1, x2, undef, undef, undef, (Value.int .u64 0), (Value.int .u64 0), undef, x1, (Value.int .i64 0), undef, undef, undef, undef, undef, undef, undef, undef, undef, undef, undef, undef, undef, undef, undef] [] w
noncomputable def s23 (x0 x1 x2 : Value) (w : World) : Option (Value × World) :=
  loopR s23B0 s23R0 [x0, x2, (Value.int .u64 0), x1, (Value.int .i64 0)] w
theorem s23J1eq (w : World) : s23J1 [aA,aB,aC,aD,aE,aF,aG,aH,aI,aJ,aK,aL,aM,aN,aO,aP,aQ,aR,aS,aT,aU,aV,aW,aX,aY,aZ] [] w = s23M1 aA aC aH aJ aK w := (show _ = evK Tryd.prog 23 none (nav [1, 1, 0, 1, 0, 0, 1, 1, 0, 0, 1, 1] (bodyOf Tryd.f23)) none _ ⟨[aA,aB,aC,aD,aE,aF,aG,aH,aI,aJ,aK,aL,aM,aN,aO,aP,aQ,aR,aS,aT,aU,aV,aW,aX,aY,aZ].toArray, []⟩ w s23K3 from by kernel_rfl).trans (by kernel_rfl)
theorem s23J1of {w : World} {r : _} (h : s23M1 aA aC aH aJ aK w = some r) : s23J1 [aA,aB,aC,aD,aE,aF,aG,aH,aI,aJ,aK,aL,aM,aN,aO,aP,aQ,aR,aS,aT,aU,aV,aW,aX,aY,aZ] [] w = some r :=
  ((s23J1eq w).trans h)
theorem s23B0eq (x0 x2 x7 x9 x10 : Value) (w : World) (g : Nat → Value) (d : List Deferred) : evK Tryd.prog 23 none (nav [1, 1, 0, 1, 0, 0] (bodyOf Tryd.f23)) none _ (frm 26 (setL [0, 2, 7, 9, 10] [x0, x2, x7, x9, x10] g) d) w (projK [0, 2, 7, 9, 10]) = s23B0raw g d [x0, x2, x7, x9, x10] w := by kernel_rfl
theorem s23R0x0eq (x0 x2 x7 x9 x10 : Value) (g : Nat → Value) (w : World) : s23K1 (Exit.exit 0) (frm 26 (setL [0, 2, 7, 9, 10] [x0, x2, x7, x9, x10] g) []) w = s23R0 (Exit.exit 0) [x0, x2, x7, x9, x10] w := by kernel_rfl
theorem s23R0of : ∀ (e : Exit) (xs : List Value) (w : World) (g : Nat → Value) (y : _), s23R0 e xs w = some y → s23K1 e (frm 26 (setL [0, 2, 7, 9, 10] xs g) []) w = some y := by
  intro e xs w g y h
  unfold s23R0 at h
  split at h
  · exact (s23R0x0eq _ _ _ _ _ g _).trans h
  · cases h
set_option maxRecDepth 20000 in
theorem s23L0of {aA aB aC aD aE aF aG aH aI aJ aK aL aM aN aO aP aQ aR aS aT aU aV aW aX aY aZ : Value} {w : World} {r : _} (h : loopR s23B0 s23R0 [aA,aC,aH,aJ,aK] w = some r) : s23L0 [aA,aB,aC,aD,aE,aF,aG,aH,aI,aJ,aK,aL,aM,aN,aO,aP,aQ,aR,aS,aT,aU,aV,aW,aX,aY,aZ] [] w = some r :=
  loopN_of (B := s23B0) (R := s23R0) (n := 26) (live := [0, 2, 7, 9, 10]) (fun xs w g y hl h => match xs, hl, h with | [x0, x2, x7, x9, x10], _, h => (s23B0eq x0 x2 x7 x9 x10 w g []).trans (show s23B0raw g [] [x0, x2, x7, x9, x10] w = some y from (Ev.bind_mono fun (_ : Value) => (condK_mono (Ev.bind_mono fun (_ : Value) => (condK_mono (Ev.bind_mono fun (_ : Value × World) => (s23J1of)) (s23J1of))) id)) h)) (by kernel_rfl) (s23R0of) (fun i => ([aA,aB,aC,aD,aE,aF,aG,aH,aI,aJ,aK,aL,aM,aN,aO,aP,aQ,aR,aS,aT,aU,aV,aW,aX,aY,aZ] : List Value).getD i undef) (by kernel_rfl) rfl h
theorem s23eq (x0 x1 x2 : Value) (w : World) : evK Tryd.prog 23 none (bodyOf Tryd.f23) none _ { tmps := (([x0, x1, x2] : List Value) ++ List.replicate (26 - 3) undef).toArray, defers := [] } w (leaveK Tryd.prog Tryd.f23) = s23raw x0 x1 x2 w := by kernel_rfl
theorem c23 {x0 x1 x2 : Value} {w : World} {r : Value × World} (h : s23 x0 x1 x2 w = some r) : C Tryd.prog 23 #[x0, x1, x2] w = some r :=
  C_ev follows_all drawLaw (by kernel_rfl) Tryd.func23 (by rfl) ((s23eq x0 x1 x2 w).trans (show s23raw x0 x1 x2 w = some r from (s23L0of) h))
theorem e23 {x0 x1 x2 : Value} {w : World} {Q : Value × World → Prop} (h : Brings (s23 x0 x1 x2 w) Q) : Brings (Xcall Tryd.prog (Value.func (Fn.func 23) #[] #[]) #[x0, x1, x2] w) Q :=
  h.call (Xcall_fn Tryd.func23 (by decide +kernel) (by rfl) _ _ _ w) fun _ h => c23 h

/-! (*lychgate/ftp.reader).number -/
noncomputable def s24K0 : Exit → Act → World → Option (Value × World) := seqK (fun a w => evK Tryd.prog 24 none (nav [1, 1, 1, 1] (bodyOf Tryd.f24)) none _ a w (leaveK Tryd.prog Tryd.f24)) (leaveK Tryd.prog Tryd.f24)
noncomputable def s24K1 : Exit → Act → World → Option (Value × World) := blockK 0 s24K0
noncomputable def s24L0 (s : List Value) (d : List Deferred) (w : World) : Option (Value × World) := loopN Tryd.prog 24 none (nav [1, 1, 1, 0, 0, 0] (bodyOf Tryd.f24)) s24K1 s d w
noncomputable def s24B0 : List Value → World → Option (Exit × List Value × World)
  | [x0, x1, x2, x7, x8], w =>
    (Qlen Tryd.prog #[22] 3 #[x7] w).bind fun v996 =>
    (Qbin Tryd.prog .lss 3 x8 v996).bind fun v997 =>
    (guardQ v997 true (QindexAddr Tryd.prog 22 (gv (isB v997 true) x7) (gv (isB v997 true) x8) w)).bind fun v998 =>
    (guardQ v997 true (Qload Tryd.prog 5 v998 w)).bind fun v999 =>
    (guardQ v997 true (Qbin Tryd.prog .geq 5 v999 (Value.int .u8 48))).bind fun v1000 =>
    (Qpick v997 v1000 (Value.bool false)).bind fun v1001 =>
    (guardQ v1001 true (QindexAddr Tryd.prog 22 (gv (isB v1001 true) x7) (gv (isB v1001 true) x8) w)).bind fun v1002 =>
    (guardQ v1001 true (Qload Tryd.prog 5 v1002 w)).bind fun v1003 =>
    (guardQ v1001 true (Qbin Tryd.prog .leq 5 v1003 (Value.int .u8 57))).bind fun v1004 =>
    (Qpick v1001 v1004 (Value.bool false)).bind fun v1005 =>
    condK v1005 (
      (Qbin Tryd.prog .add 3 x8 (Value.int .i64 1)).bind fun v1006 =>
      some (Exit.normal, [x0, x1, x2, x7, v1006], w)
    ) (
      some ((Exit.exit 0), [x0, x1, x2, x7, x8], w)
    )
  | _, _ => none
noncomputable def s24R0 : Exit → List Value → World → Option (Value × World)
  | (Exit.exit 0), [x0, x1, x2, x7, x8], w =>
    (Qslice Tryd.prog 22 x7 none (some x8) none w).bind fun v1007 =>
    (Xconv Tryd.prog 22 9 v1007 w).bind fun r1008 =>
    (Xcall Tryd.prog (Value.func (Fn.func 44) #[] #[]) #[r1008.1] r1008.2).bind fun r1009 =>
    (Qext r1009.1 0).bind fun v1010 =>
    (Qext r1009.1 1).bind fun v1011 =>
    (Qnil x0).bind fun v1012 =>
    (QfieldAddr Tryd.prog 59 v1012 1).bind fun v1013 =>
    (Qload Tryd.prog 4 v1013 r1009.2).bind fun v1014 =>
    (guardQ v1014 false (QbinN Tryd.prog .neq 95 (gv (isB v1014 false) v1011))).bind fun v1015 =>
    (Qpick v1014 (Value.bool true) v1015).bind fun v1016 =>
    (guardQ v1016 false (Qbin Tryd.prog .lss 3 (gv (isB v1016 false) v1010) (gv (isB v1016 false) x1))).bind fun v1017 =>
    (Qpick v1016 (Value.bool true) v1017).bind fun v1018 =>
    (guardQ v1018 false (Qbin Tryd.prog .gtr 3 (gv (isB v1018 false) v1010) (gv (isB v1018 false) x2))).bind fun v1019 =>
    (Qpick v1018 (Value.bool true) v1019).bind fun v1020 =>
    (guardQ v1020 false (Qbin Tryd.prog .gtr 3 (gv (isB v1020 false) x8) (Value.int .i64 1))).bind fun v1021 =>
    (guardQ (gv (isB v1020 false) v1021) true (QindexAddr Tryd.prog 22 (gv (isB (gv (isB v1020 false) v1021) true) x7) (Value.int .i64 0) r1009.2)).bind fun v1022 =>
    (guardQ (gv (isB v1020 false) v1021) true (Qload Tryd.prog 5 v1022 r1009.2)).bind fun v1023 =>
    (guardQ (gv (isB v1020 false) v1021) true (Qbin Tryd.prog .eql 5 v1023 (Value.int .u8 48))).bind fun v1024 =>
    (guardQ v1020 false (Qpick (gv (isB v1020 false) v1021) v1024 (Value.bool false))).bind fun v1025 =>
    (Qpick v1020 (Value.bool true) v1025).bind fun v1026 =>
    (Qnil x0).bind fun v1027 =>
    (QfieldAddr Tryd.prog 59 v1027 1).bind fun v1028 =>
    (Xstore Tryd.prog 4 v1028 v1026 r1009.2).bind fun r1029 =>
    (Qnil x0).bind fun v1030 =>
    (QfieldAddr Tryd.prog 59 v1030 1).bind fun v1031 =>
    (Qload Tryd.prog 4 v1031 r1029.2).bind fun v1032 =>
    condK v1032 (
      some ((Value.int .i64 0), r1029.2)
    ) (
      (Qnil x0).bind fun v1033 =>
      (QfieldAddr Tryd.prog 59 v1033 0).bind fun v1034 =>
      (QfieldAddr Tryd.prog 57 v1034 1).bind fun v1035 =>
      (Qload Tryd.prog 3 v1035 r1029.2).bind fun v1036 =>
      (Qbin Tryd.prog .add 3 v1036 x8).bind fun v1037 =>
      (Qnil x0).bind fun v1038 =>
      (QfieldAddr Tryd.prog 59 v1038 0).bind fun v1039 =>
      (QfieldAddr Tryd.prog 57 v1039 1).bind fun v1040 =>
      (Xstore Tryd.prog 3 v1040 v1037 r1029.2).bind fun r1041 =>
      some (v1010, r1041.2)
    )
  | _, _, _ => none
noncomputable def s24raw (x0 x1 x2 : Value) (w : World) : Option (Value × World) :=
  (Qnil x0).bind fun v987 =>
  (QfieldAddr Tryd.prog 59 v987 0).bind fun v988 =>
  (QfieldAddr Tryd.prog 57 v988 0).bind fun v989 =>
  (Qload Tryd.prog 22 v989 w.drew).bind fun v990 =>
  (Qnil x0).bind fun v991 =>
  (QfieldAddr Tryd.prog 59 v991 0).bind fun v992 =>
  (QfieldAddr Tryd.prog 57 v992 1).bind fun v993 =>
  (Qload Tryd.prog 3 v993 w.drew).bind fun v994 =>
  (Qslice Tryd.prog 22 v990 (some v994) none none w.drew).bind fun v995 =>
  chkK True (
    s24L0 [x0, x1, x2, undef, undef, undef, (Value.int .i64 0), v995, (Value.int .i64 0), undef, undef, x0, v987, v988, v989, v990, x0, v991, v992, v993, v994, v995, undef, undef, undef, undef, undef, undef, undef, undef, undef, undef, undef, undef, undef, undef, undef, undef, undef, undef, undef, undef, undef, undef, undef, undef, undef, undef, undef, undef, undef, undef, undef, undef, undef, undef, undef, undef, undef, undef, undef, undef, undef, undef, undef, undef, undef, undef, undef, undef, undef, undef, undef, undef, undef, undef, undef, undef, undef, undef, undef, undef, undef, undef, undef, undef, undef, undef, undef, undef, undef, undef, undef, undef, undef, undef] [] w.drew
  )
noncomputable def s24 (x0 x1 x2 : Value) (w : World) : Option (Value × World) :=
  (Qnil x0).bind fun v987 =>
  (QfieldAddr Tryd.prog 59 v987 0).bind fun v988 =>
  (QfieldAddr Tryd.prog 57 v988 0).bind fun v989 =>
  (Qload Tryd.prog 22 v989 w.drew).bind fun v990 =>
  (Qnil x0).bind fun v991 =>
  (QfieldAddr Tryd.prog 59 v991 0).bind fun v992 =>
  (QfieldAddr Tryd.prog 57 v992 1).bind fun v993 =>
  (Qload Tryd.prog 3 v993 w.drew).bind fun v994 =>
  (Qslice Tryd.prog 22 v990 (some v994) none none w.drew).bind fun v995 =>
  chkK True (
    loopR s24B0 s24R0 [x0, x1, x2, v995, (Value.int .i64 0)] w.drew
  )
theorem s24B0eq (x0 x1 x2 x7 x8 : Value) (w : World) (g : Nat → Value) (d : List Deferred) : evK Tryd.prog 24 none (nav [1, 1, 1, 0, 0, 0] (bodyOf Tryd.f24)) none _ (frm 96 (setL [0, 1, 2, 7, 8] [x0, x1, x2, x7, x8] g) d) w (projK [0, 1, 2, 7, 8]) = s24B0 [x0, x1, x2, x7, x8] w := by kernel_rfl
theorem s24R0x0eq (x0 x1 x2 x7 x8 : Value) (g : Nat → Value) (w : World) : s24K1 (Exit.exit 0) (frm 96 (setL [0, 1, 2, 7, 8] [x0, x1, x2, x7, x8] g) []) w = s24R0 (Exit.exit 0) [x0, x1, x2, x7, x8] w := by kernel_rfl
theorem s24R0of : ∀ (e : Exit) (xs : List Value) (w : World) (g : Nat → Value) (y : _), s24R0 e xs w = some y → s24K1 e (frm 96 (setL [0, 1, 2, 7, 8] xs g) []) w = some y := by
  intro e xs w g y h
  unfold s24R0 at h
  split at h
  · exact (s24R0x0eq _ _ _ _ _ g _).trans h
  · cases h
set_option maxRecDepth 20000 in
theorem s24L0of {aA aB aC aD aE aF aG aH aI aJ aK aL aM aN aO aP aQ aR aS aT aU aV aW aX aY aZ bA bB bC bD bE bF bG bH bI bJ bK bL bM bN bO bP bQ bR bS bT bU bV bW bX bY bZ cA cB cC cD cE cF cG cH cI cJ cK cL cM cN cO cP cQ cR cS cT cU cV cW cX cY cZ dA dB dC dD dE dF dG dH dI dJ dK dL dM dN dO dP dQ dR : Value} {w : World} {r : _} (h : loopR s24B0 s24R0 [aA,aB,aC,aH,aI] w = some r) : s24L0 [aA,aB,aC,aD,aE,aF,aG,aH,aI,aJ,aK,aL,aM,aN,aO,aP,aQ,aR,aS,aT,aU,aV,aW,aX,aY,aZ,bA,bB,bC,bD,bE,bF,bG,bH,bI,bJ,bK,bL,bM,bN,bO,bP,bQ,bR,bS,bT,bU,bV,bW,bX,bY,bZ,cA,cB,cC,cD,cE,cF,cG,cH,cI,cJ,cK,cL,cM,cN,cO,cP,cQ,cR,cS,cT,cU,cV,cW,cX,cY,cZ,dA,dB,dC,dD,dE,dF,dG,dH,dI,dJ,dK,dL,dM,dN,dO,dP,dQ,dR] [] w = some r :=
  loopN_of (B := s24B0) (R := s24R0) (n := 96) (live := [0, 1, 2, 7, 8]) (fun xs w g y hl h => match xs, hl, h with | [x0, x1, x2, x7, x8], _, h => (s24B0eq x0 x1 x2 x7 x8 w g []).trans h) (by kernel_rfl) (s24R0of) (fun i => ([aA,aB,aC,aD,aE,aF,aG,aH,aI,aJ,aK,aL,aM,aN,aO,aP,aQ,aR,aS,aT,aU,aV,aW,aX,aY,aZ,bA,bB,bC,bD,bE,bF,bG,bH,bI,bJ,bK,bL,bM,bN,bO,bP,bQ,bR,bS,bT,bU,bV,bW,bX,bY,bZ,cA,cB,cC,cD,cE,cF,cG,cH,cI,cJ,cK,cL,cM,cN,cO,cP,cQ,cR,cS,cT,cU,cV,cW,cX,cY,cZ,dA,dB,dC,dD,dE,dF,dG,dH,dI,dJ,dK,dL,dM,dN,dO,dP,dQ,dR] : List Value).getD i undef) (by kernel_rfl) rfl h
theorem s24eq (x0 x1 x2 : Value) (w : World) : evK Tryd.prog 24 none (bodyOf Tryd.f24) none _ { tmps := (([x0, x1, x2] : List Value) ++ List.replicate (96 - 3) undef).toArray, defers := [] } w (leaveK Tryd.prog Tryd.f24) = s24raw x0 x1 x2 w := by kernel_rfl
set_option maxRecDepth 100000 in
theorem c24 {x0 x1 x2 : Value} {w : World} {r : Value × World} (h : s24 x0 x1 x2 w = some r) : C Tryd.prog 24 #[x0, x1, x2] w = some r :=
  C_ev follows_all drawLaw (by kernel_rfl) Tryd.func24 (by rfl) ((s24eq x0 x1 x2 w).trans (show s24raw x0 x1 x2 w = some r from (Ev.bind_mono fun (_ : Value) => (Ev.bind_mono fun (_ : Value) => (Ev.bind_mono fun (_ : Value) => (Ev.bind_mono fun (_ : Value) => (Ev.bind_mono fun (_ : Value) => (Ev.bind_mono fun (_ : Value) => (Ev.bind_mono fun (_ : Value) => (Ev.bind_mono fun (_ : Value) => (Ev.bind_mono fun (_ : Value) => (chkK_mono (s24L0of))))))))))) h))
theorem e24 {x0 x1 x2 : Value} {w : World} {Q : Value × World → Prop} (h : Brings (s24 x0 x1 x2 w) Q) : Brings (Xcall Tryd.prog (Value.func (Fn.func 24) #[] #[]) #[x0, x1, x2] w) Q :=
  h.call (Xcall_fn Tryd.func24 (by decide +kernel) (by rfl) _ _ _ w) fun _ h => c24 h

/-! (*lychgate/ftp.reader).open -/
noncomputable def s25 (x0 : Value) (w : World) : Option (Value × World) :=
  (Qnil x0).bind fun v1042 =>
  (QfieldAddr Tryd.prog 59 v1042 0).bind fun v1043 =>
  (QfieldAddr Tryd.prog 57 v1043 0).bind fun v1044 =>
  (Qload Tryd.prog 22 v1044 w.drew).bind fun v1045 =>
  (Qnil x0).bind fun v1046 =>
  (QfieldAddr Tryd.prog 59 v1046 0).bind fun v1047 =>
  (QfieldAddr Tryd.prog 57 v1047 1).bind fun v1048 =>
  (Qload Tryd.prog 3 v1048 w.drew).bind fun v1049 =>
  (Qslice Tryd.prog 22 v1045 (some v1049) none none w.drew).bind fun v1050 =>
  (Xcall Tryd.prog (Value.func (Fn.func 45) #[] #[]) #[v1050, (Value.int .u8 40)] w.drew).bind fun r1051 =>
  chkK True (
    (Qbin Tryd.prog .lss 3 r1051.1 (Value.int .i64 0)).bind fun v1052 =>
    condK v1052 (
      (Qnil x0).bind fun v1053 =>
      (QfieldAddr Tryd.prog 59 v1053 1).bind fun v1054 =>
      (Xstore Tryd.prog 4 v1054 (Value.bool true) r1051.2).bind fun r1055 =>
      some ((Value.tuple #[]), r1055.2)
    ) (
      (Qnil x0).bind fun v1056 =>
      (QfieldAddr Tryd.prog 59 v1056 0).bind fun v1057 =>
      (QfieldAddr Tryd.prog 57 v1057 1).bind fun v1058 =>
      (Qload Tryd.prog 3 v1058 r1051.2).bind fun v1059 =>
      (Qbin Tryd.prog .add 3 v1059 r1051.1).bind fun v1060 =>
      (Qnil x0).bind fun v1061 =>
      (QfieldAddr Tryd.prog 59 v1061 0).bind fun v1062 =>
      (QfieldAddr Tryd.prog 57 v1062 1).bind fun v1063 =>
      (Xstore Tryd.prog 3 v1063 v1060 r1051.2).bind fun r1064 =>
      some ((Value.tuple #[]), r1064.2)
    )
  )
theorem s25eq (x0 : Value) (w : World) : evK Tryd.prog 25 none (bodyOf Tryd.f25) none _ { tmps := (([x0] : List Value) ++ List.replicate (30 - 1) undef).toArray, defers := [] } w (leaveK Tryd.prog Tryd.f25) = s25 x0 w := by kernel_rfl
theorem c25 {x0 : Value} {w : World} {r : Value × World} (h : s25 x0 w = some r) : C Tryd.prog 25 #[x0] w = some r :=
  C_ev follows_all drawLaw (by kernel_rfl) Tryd.func25 (by rfl) ((s25eq x0 w).trans h)
theorem e25 {x0 : Value} {w : World} {Q : Value × World → Prop} (h : Brings (s25 x0 w) Q) : Brings (Xcall Tryd.prog (Value.func (Fn.func 25) #[] #[]) #[x0] w) Q :=
  h.call (Xcall_fn Tryd.func25 (by decide +kernel) (by rfl) _ _ _ w) fun _ h => c25 h

/-! lychgate/ftp.Find -/
noncomputable def s10K0 : Exit → Act → World → Option (Value × World) := gscopeK Tryd.prog 10 none (nav [1, 0] (bodyOf Tryd.f10)) 63 (leaveK Tryd.prog Tryd.f10)
noncomputable def s10K1 : Exit → Act → World → Option (Value × World) := seqK (fun a w => evK Tryd.prog 10 none (nav [1, 0] (bodyOf Tryd.f10)) none _ a w s10K0) s10K0
noncomputable def s10J0 (s : List Value) (d : List Deferred) (w : World) : Option (Value × World) := s10K1 .normal ⟨s.toArray, d⟩ w
noncomputable def s10K2 : Exit → Act → World → Option (Value × World) := gscopeK Tryd.prog 10 none (nav [1, 0] (bodyOf Tryd.f10)) 62 (leaveK Tryd.prog Tryd.f10)
noncomputable def s10K3 : Exit → Act → World → Option (Value × World) := seqK (fun a w => evK Tryd.prog 10 none (nav [1, 0, 1, 1, 1, 1, 1, 1, 1, 1, 1, 1, 1, 1, 1, 1, 1, 1, 1, 1, 1, 1, 1, 1] (bodyOf Tryd.f10)) none _ a w s10K2) s10K2
noncomputable def s10J1 (s : List Value) (d : List Deferred) (w : World) : Option (Value × World) := s10K3 .normal ⟨s.toArray, d⟩ w
noncomputable def s10K4 : Exit → Act → World → Option (Value × World) := gscopeK Tryd.prog 10 none (nav [1, 0] (bodyOf Tryd.f10)) 61 (leaveK Tryd.prog Tryd.f10)
noncomputable def s10M1 (s4 s8 : Value) (w : World) : Option (Value × World) :=
  (Xcall Tryd.prog (Value.func (Fn.func 21) #[] #[]) #[s8, (Value.string { data := #[40, 124, 124, 124] })] w).bind fun r1159 =>
  (Qnil s8).bind fun v1160 =>
  (QfieldAddr Tryd.prog 59 v1160 0).bind fun v1161 =>
  (QfieldAddr Tryd.prog 57 v1161 1).bind fun v1162 =>
  (Qload Tryd.prog 3 v1162 r1159.2).bind fun v1163 =>
  (Qbuild Tryd.prog 27 #[(0, (Value.int .i64 4)), (1, v1163)] r1159.2).bind fun v1164 =>
  (Xstore Tryd.prog 27 s4 v1164 r1159.2).bind fun r1165 =>
  (Xcall Tryd.prog (Value.func (Fn.func 24) #[] #[]) #[s8, (Value.int .i64 1), (Value.int .i64 65535)] r1165.2).bind fun r1166 =>
  (Qconv Tryd.prog 3 25 r1166.1).bind fun v1167 =>
  (QfieldAddr Tryd.prog 27 s4 4).bind fun v1168 =>
  (Xstore Tryd.prog 25 v1168 v1167 r1166.2).bind fun r1169 =>
  (Qnil s8).bind fun v1170 =>
  (QfieldAddr Tryd.prog 59 v1170 0).bind fun v1171 =>
  (QfieldAddr Tryd.prog 57 v1171 1).bind fun v1172 =>
  (Qload Tryd.prog 3 v1172 r1169.2).bind fun v1173 =>
  (QfieldAddr Tryd.prog 27 s4 2).bind fun v1174 =>
  (Xstore Tryd.prog 3 v1174 v1173 r1169.2).bind fun r1175 =>
  (Xcall Tryd.prog (Value.func (Fn.func 21) #[] #[]) #[s8, (Value.string { data := #[124, 41] })] r1175.2).bind fun r1176 =>
  (Qnil s8).bind fun v1177 =>
  (QfieldAddr Tryd.prog 59 v1177 1).bind fun v1178 =>
  (Qload Tryd.prog 4 v1178 r1176.2).bind fun v1179 =>
  condK v1179 (
    (Qbuild Tryd.prog 27 #[] r1176.2).bind fun v1180 =>
    (Xstore Tryd.prog 27 s4 v1180 r1176.2).bind fun r1181 =>
    ((((Qload Tryd.prog 27 s4 r1181.2).bind fun v => ((((some [])).map fun vs => (Value.bool false) :: vs)).map fun vs => v :: vs)).map oneOf).map fun v => (v, r1181.2)
  ) (
    (Qload Tryd.prog 27 s4 r1176.2).bind fun v1182 =>
    (Xstore Tryd.prog 27 s4 v1182 r1176.2).bind fun r1183 =>
    ((((Qload Tryd.prog 27 s4 r1183.2).bind fun v => ((((some [])).map fun vs => (Value.bool true) :: vs)).map fun vs => v :: vs)).map oneOf).map fun v => (v, r1183.2)
  )
noncomputable def s10U1x62 (s4 s8 : Value) (w : World) : Option (Value × World) :=
  (Qnil s8).bind fun v1152 =>
  (QfieldAddr Tryd.prog 59 v1152 1).bind fun v1153 =>
  (Qload Tryd.prog 4 v1153 w).bind fun v1154 =>
  condK v1154 (
    (Qbuild Tryd.prog 27 #[] w).bind fun v1155 =>
    (Xstore Tryd.prog 27 s4 v1155 w).bind fun r1156 =>
    ((((Qload Tryd.prog 27 s4 r1156.2).bind fun v => ((((some [])).map fun vs => (Value.bool false) :: vs)).map fun vs => v :: vs)).map oneOf).map fun v => (v, r1156.2)
  ) (
    (Qload Tryd.prog 27 s4 w).bind fun v1157 =>
    (Xstore Tryd.prog 27 s4 v1157 w).bind fun r1158 =>
    ((((Qload Tryd.prog 27 s4 r1158.2).bind fun v => ((((some [])).map fun vs => (Value.bool true) :: vs)).map fun vs => v :: vs)).map oneOf).map fun v => (v, r1158.2)
  )
noncomputable def s10U1x63 (s4 s8 : Value) (w : World) : Option (Value × World) :=
  (Qnil s8).bind fun v1145 =>
  (QfieldAddr Tryd.prog 59 v1145 1).bind fun v1146 =>
  (Qload Tryd.prog 4 v1146 w).bind fun v1147 =>
  condK v1147 (
    (Qbuild Tryd.prog 27 #[] w).bind fun v1148 =>
    (Xstore Tryd.prog 27 s4 v1148 w).bind fun r1149 =>
    ((((Qload Tryd.prog 27 s4 r1149.2).bind fun v => ((((some [])).map fun vs => (Value.bool false) :: vs)).map fun vs => v :: vs)).map oneOf).map fun v => (v, r1149.2)
  ) (
    (Qload Tryd.prog 27 s4 w).bind fun v1150 =>
    (Xstore Tryd.prog 27 s4 v1150 w).bind fun r1151 =>
    ((((Qload Tryd.prog 27 s4 r1151.2).bind fun v => ((((some [])).map fun vs => (Value.bool true) :: vs)).map fun vs => v :: vs)).map oneOf).map fun v => (v, r1151.2)
  )
noncomputable def s10U0x63raw (aA aB aC aD aE aF aG aH aI aJ aK aL aM aN aO aP aQ aR aS aT aU aV aW aX aY aZ bA bB bC bD bE bF bG bH bI bJ bK bL bM bN bO bP bQ bR bS bT bU bV bW bX bY bZ cA cB cC cD cE cF cG cH cI cJ cK cL cM cN cO cP cQ cR cS cT cU cV cW cX cY cZ dA dB dC dD dE dF dG dH dI dJ dK _ _ dN dO dP dQ dR dS dT dU dV dW dX dY dZ eA eB eC eD eE eF eG eH eI eJ eK eL eM eN eO eP eQ eR eS eT eU eV eW eX eY eZ fA fB fC fD fE fF : Value) (w : World) : Option (Value × World) :=
  (Xcall Tryd.prog (Value.func (Fn.func 21) #[] #[]) #[aI, (Value.string { data := #[50, 50, 55, 32] })] w).bind fun r1132 =>
  condK r1132.1 (
    (Xcall Tryd.prog (Value.func (Fn.func 25) #[] #[]) #[aI] r1132.2).bind fun r1133 =>
    (Xcall Tryd.prog (Value.func (Fn.func 21) #[] #[]) #[aI, (Value.string { data := #[40] })] r1133.2).bind fun r1134 =>
    (Xcall Tryd.prog (Value.func (Fn.func 22) #[] #[]) #[aI, (Value.int .i64 3)] r1134.2).bind fun r1135 =>
    (Xstore Tryd.prog 27 aE r1135.1 r1135.2).bind fun r1136 =>
    (Xcall Tryd.prog (Value.func (Fn.func 21) #[] #[]) #[aI, (Value.string { data := #[41] })] r1136.2).bind fun r1137 =>
    s10K2 (Exit.goto 1) ⟨[aA,aB,aC,aD,aE,aF,aG,aH,aI,aJ,aK,aL,aM,aN,aO,aP,aQ,aR,aS,aT,aU,aV,aW,aX,aY,aZ,bA,bB,bC,bD,bE,bF,bG,bH,bI,bJ,bK,bL,bM,bN,bO,bP,bQ,bR,bS,bT,bU,bV,bW,bX,bY,bZ,cA,cB,cC,cD,cE,cF,cG,cH,cI,cJ,cK,cL,cM,cN,cO,cP,cQ,cR,cS,cT,cU,cV,cW,cX,cY,cZ,dA,dB,dC,dD,dE,dF,dG,dH,dI,dJ,dK,aI, r1132.1, aI, r1133.1, aI, r1134.1, aI, r1135.1, aI, r1137.1, dV,dW,dX,dY,dZ,eA,eB,eC,eD,eE,eF,eG,eH,eI,eJ,eK,eL,eM,eN,eO,eP,eQ,eR,eS,eT,eU,eV,eW,eX,eY,eZ,fA,fB,fC,fD,fE,fF].toArray, []⟩ r1137.2
  ) (
    (Xcall Tryd.prog aH #[] r1132.2).bind fun r1138 =>
    (Xcall Tryd.prog (Value.func (Fn.func 21) #[] #[]) #[r1138.1, (Value.string { data := #[50, 50, 57, 32] })] r1138.2).bind fun r1139 =>
    (Qnil r1138.1).bind fun v1140 =>
    (QfieldAddr Tryd.prog 59 v1140 1).bind fun v1141 =>
    (Qload Tryd.prog 4 v1141 r1139.2).bind fun v1142 =>
    (Qun .not v1142).bind fun v1143 =>
    condK v1143 (
      (Xcall Tryd.prog (Value.func (Fn.func 25) #[] #[]) #[r1138.1] r1139.2).bind fun r1144 =>
      s10J1 [aA,aB,aC,aD,aE,aF,aG,aH, r1138.1, aJ,aK,aL,aM,aN,aO,aP,aQ,aR,aS,aT,aU,aV,aW,aX,aY,aZ,bA,bB,bC,bD,bE,bF,bG,bH,bI,bJ,bK,bL,bM,bN,bO,bP,bQ,bR,bS,bT,bU,bV,bW,bX,bY,bZ,cA,cB,cC,cD,cE,cF,cG,cH,cI,cJ,cK,cL,cM,cN,cO,cP,cQ,cR,cS,cT,cU,cV,cW,cX,cY,cZ,dA,dB,dC,dD,dE,dF,dG,dH,dI,dJ,dK,aI, r1132.1, dN,dO,dP,dQ,dR,dS,dT,dU,aH, r1138.1, r1138.1, r1139.1, r1138.1, v1140, v1141, v1142, v1143, r1138.1, r1144.1, eG,eH,eI,eJ,eK,eL,eM,eN,eO,eP,eQ,eR,eS,eT,eU,eV,eW,eX,eY,eZ,fA,fB,fC,fD,fE,fF] [] r1144.2
    ) (
      s10J1 [aA,aB,aC,aD,aE,aF,aG,aH, r1138.1, aJ,aK,aL,aM,aN,aO,aP,aQ,aR,aS,aT,aU,aV,aW,aX,aY,aZ,bA,bB,bC,bD,bE,bF,bG,bH,bI,bJ,bK,bL,bM,bN,bO,bP,bQ,bR,bS,bT,bU,bV,bW,bX,bY,bZ,cA,cB,cC,cD,cE,cF,cG,cH,cI,cJ,cK,cL,cM,cN,cO,cP,cQ,cR,cS,cT,cU,cV,cW,cX,cY,cZ,dA,dB,dC,dD,dE,dF,dG,dH,dI,dJ,dK,aI, r1132.1, dN,dO,dP,dQ,dR,dS,dT,dU,aH, r1138.1, r1138.1, r1139.1, r1138.1, v1140, v1141, v1142, v1143, eE,eF,eG,eH,eI,eJ,eK,eL,eM,eN,eO,eP,eQ,eR,eS,eT,eU,eV,eW,eX,eY,eZ,fA,fB,fC,fD,fE,fF] [] r1139.2
    )
  )
noncomputable def s10U0x63 (s4 s7 s8 : Value) (w : World) : Option (Value × World) :=
  (Xcall Tryd.prog (Value.func (Fn.func 21) #[] #[]) #[s8, (Value.string { data := #[50, 50, 55, 32] })] w).bind fun r1132 =>
  condK r1132.1 (
    (Xcall Tryd.prog (Value.func (Fn.func 25) #[] #[]) #[s8] r1132.2).bind fun r1133 =>
    (Xcall Tryd.prog (Value.func (Fn.func 21) #[] #[]) #[s8, (Value.string { data := #[40] })] r1133.2).bind fun r1134 =>
    (Xcall Tryd.prog (Value.func (Fn.func 22) #[] #[]) #[s8, (Value.int .i64 3)] r1134.2).bind fun r1135 =>
    (Xstore Tryd.prog 27 s4 r1135.1 r1135.2).bind fun r1136 =>
    (Xcall Tryd.prog (Value.func (Fn.func 21) #[] #[]) #[s8, (Value.string { data := #[41] })] r1136.2).bind fun r1137 =>
    s10U1x62 s4 s8 r1137.2
  ) (
    (Xcall Tryd.prog s7 #[] r1132.2).bind fun r1138 =>
    (Xcall Tryd.prog (Value.func (Fn.func 21) #[] #[]) #[r1138.1, (Value.string { data := #[50, 50, 57, 32] })] r1138.2).bind fun r1139 =>
    (Qnil r1138.1).bind fun v1140 =>
    (QfieldAddr Tryd.prog 59 v1140 1).bind fun v1141 =>
    (Qload Tryd.prog 4 v1141 r1139.2).bind fun v1142 =>
    (Qun .not v1142).bind fun v1143 =>
    condK v1143 (
      (Xcall Tryd.prog (Value.func (Fn.func 25) #[] #[]) #[r1138.1] r1139.2).bind fun r1144 =>
      s10M1 s4 r1138.1 r1144.2
    ) (
      s10M1 s4 r1138.1 r1139.2
    )
  )
noncomputable def s10M0raw (aA aB aC aD aE _ _ _ _ _ _ _ _ _ _ _ aQ _ _ _ _ aV aW aX aY aZ bA bB bC bD bE bF bG bH bI bJ bK bL bM bN bO bP bQ bR bS bT bU bV bW bX bY bZ cA cB cC cD cE cF cG cH cI cJ cK cL cM cN cO cP cQ cR cS cT cU cV cW cX cY cZ dA dB dC dD dE dF dG dH dI dJ dK dL dM dN dO dP dQ dR dS dT dU dV dW dX dY dZ eA eB eC eD eE eF eG eH eI eJ eK eL eM eN eO eP eQ eR eS eT eU eV eW eX eY eZ fA fB fC fD fE fF : Value) (w : World) : Option (Value × World) :=
  (Xcall Tryd.prog (Value.func (Fn.func 19) #[] #[]) #[aA] w).bind fun r1066 =>
  (Qext r1066.1 0).bind fun v1067 =>
  (Qext r1066.1 1).bind fun v1068 =>
  (Xalloc Tryd.prog 22 r1066.2).bind fun r1069 =>
  (Xstore Tryd.prog 22 r1069.1 v1067 r1069.2).bind fun r1070 =>
  (Qun .not v1068).bind fun v1071 =>
  condK v1071 (
    (Qbuild Tryd.prog 27 #[] r1070.2).bind fun v1072 =>
    (Xstore Tryd.prog 27 aE v1072 r1070.2).bind fun r1073 =>
    ((((Qload Tryd.prog 27 aE r1073.2).bind fun v => ((((some [])).map fun vs => (Value.bool false) :: vs)).map fun vs => v :: vs)).map oneOf).map fun v => (v, r1073.2)
  ) (
    (some (Value.func (Go.Fn.func 20) #[] #[r1069.1])).bind fun v1074 =>
    (Xcall Tryd.prog v1074 #[] r1070.2).bind fun r1075 =>
    condK aB (
      s10K0 (Exit.goto 0) ⟨[aA,aB,aC,aD,aE, v1068, r1069.1, v1074, r1075.1, r1066.1, aA, r1066.1, v1067, v1068, v1068, v1071, aQ, v1074, v1074, r1075.1, aB,aV,aW,aX,aY,aZ,bA,bB,bC,bD,bE,bF,bG,bH,bI,bJ,bK,bL,bM,bN,bO,bP,bQ,bR,bS,bT,bU,bV,bW,bX,bY,bZ,cA,cB,cC,cD,cE,cF,cG,cH,cI,cJ,cK,cL,cM,cN,cO,cP,cQ,cR,cS,cT,cU,cV,cW,cX,cY,cZ,dA,dB,dC,dD,dE,dF,dG,dH,dI,dJ,dK,dL,dM,dN,dO,dP,dQ,dR,dS,dT,dU,dV,dW,dX,dY,dZ,eA,eB,eC,eD,eE,eF,eG,eH,eI,eJ,eK,eL,eM,eN,eO,eP,eQ,eR,eS,eT,eU,eV,eW,eX,eY,eZ,fA,fB,fC,fD,fE,fF].toArray, []⟩ r1075.2
    ) (
      (Xcall Tryd.prog (Value.func (Fn.func 21) #[] #[]) #[r1075.1, (Value.string { data := #[80, 79, 82, 84, 32] })] r1075.2).bind fun r1076 =>
      condK r1076.1 (
        (Xcall Tryd.prog (Value.func (Fn.func 22) #[] #[]) #[r1075.1, (Value.int .i64 1)] r1076.2).bind fun r1077 =>
        (Xstore Tryd.prog 27 aE r1077.1 r1077.2).bind fun r1078 =>
        (Qnil r1075.1).bind fun v1079 =>
        (QfieldAddr Tryd.prog 59 v1079 1).bind fun v1080 =>
        (Qload Tryd.prog 4 v1080 r1078.2.drew).bind fun v1081 =>
        (guardQ v1081 false (Qnil (gv (isB v1081 false) r1075.1))).bind fun v1082 =>
        (guardQ v1081 false (QfieldAddr Tryd.prog 59 v1082 0)).bind fun v1083 =>
        (guardQ v1081 false (QfieldAddr Tryd.prog 57 v1083 1)).bind fun v1084 =>
        (guardQ v1081 false (Qload Tryd.prog 3 v1084 r1078.2.drew)).bind fun v1085 =>
        (guardQ v1081 false (Qload Tryd.prog 22 r1069.1 r1078.2.drew)).bind fun v1086 =>
        (guardQ v1081 false (Qlen Tryd.prog #[22] 3 #[v1086] r1078.2.drew)).bind fun v1087 =>
        (guardQ v1081 false (Qbin Tryd.prog .neq 3 v1085 v1087)).bind fun v1088 =>
        (Qpick v1081 (Value.bool true) v1088).bind fun v1089 =>
        (Qnil r1075.1).bind fun v1090 =>
        (QfieldAddr Tryd.prog 59 v1090 1).bind fun v1091 =>
        (Xstore Tryd.prog 4 v1091 v1089 r1078.2.drew).bind fun r1092 =>
        chkK True (
          s10K0 (Exit.goto 1) ⟨[aA,aB,aC,aD,aE, v1068, r1069.1, v1074, r1075.1, r1066.1, aA, r1066.1, v1067, v1068, v1068, v1071, aQ, v1074, v1074, r1075.1, aB, r1075.1, r1076.1, r1075.1, r1077.1, r1075.1, r1075.1, v1079, v1080, v1081, v1081, (gv (isB v1081 false) r1075.1), v1082, v1083, v1084, v1085, v1086, v1087, v1088, v1089, v1090, v1091, bQ,bR,bS,bT,bU,bV,bW,bX,bY,bZ,cA,cB,cC,cD,cE,cF,cG,cH,cI,cJ,cK,cL,cM,cN,cO,cP,cQ,cR,cS,cT,cU,cV,cW,cX,cY,cZ,dA,dB,dC,dD,dE,dF,dG,dH,dI,dJ,dK,dL,dM,dN,dO,dP,dQ,dR,dS,dT,dU,dV,dW,dX,dY,dZ,eA,eB,eC,eD,eE,eF,eG,eH,eI,eJ,eK,eL,eM,eN,eO,eP,eQ,eR,eS,eT,eU,eV,eW,eX,eY,eZ,fA,fB,fC,fD,fE,fF].toArray, []⟩ r1092.2
        )
      ) (
        (Xcall Tryd.prog v1074 #[] r1076.2).bind fun r1093 =>
        (Xcall Tryd.prog (Value.func (Fn.func 21) #[] #[]) #[r1093.1, (Value.string { data := #[69, 80, 82, 84, 32] })] r1093.2).bind fun r1094 =>
        (Qnil r1093.1).bind fun v1095 =>
        (QfieldAddr Tryd.prog 59 v1095 0).bind fun v1096 =>
        (QfieldAddr Tryd.prog 57 v1096 1).bind fun v1097 =>
        (Qload Tryd.prog 3 v1097 r1094.2).bind fun v1098 =>
        (Qbuild Tryd.prog 27 #[(0, (Value.int .i64 2)), (1, v1098)] r1094.2).bind fun v1099 =>
        (Xstore Tryd.prog 27 aE v1099 r1094.2).bind fun r1100 =>
        (Xcall Tryd.prog (Value.func (Fn.func 21) #[] #[]) #[r1093.1, (Value.string { data := #[124, 49, 124] })] r1100.2).bind fun r1101 =>
        (Xcall Tryd.prog (Value.func (Fn.func 23) #[] #[]) #[r1093.1, (Value.int .i64 4), (Value.string { data := #[46] })] r1101.2).bind fun r1102 =>
        (Qconv Tryd.prog 63 24 r1102.1).bind fun v1103 =>
        (QfieldAddr Tryd.prog 27 aE 3).bind fun v1104 =>
        (Xstore Tryd.prog 24 v1104 v1103 r1102.2).bind fun r1105 =>
        (Xcall Tryd.prog (Value.func (Fn.func 21) #[] #[]) #[r1093.1, (Value.string { data := #[124] })] r1105.2).bind fun r1106 =>
        (Xcall Tryd.prog (Value.func (Fn.func 24) #[] #[]) #[r1093.1, (Value.int .i64 1), (Value.int .i64 65535)] r1106.2).bind fun r1107 =>
        (Qconv Tryd.prog 3 25 r1107.1).bind fun v1108 =>
        (QfieldAddr Tryd.prog 27 aE 4).bind fun v1109 =>
        (Xstore Tryd.prog 25 v1109 v1108 r1107.2).bind fun r1110 =>
        (Xcall Tryd.prog (Value.func (Fn.func 21) #[] #[]) #[r1093.1, (Value.string { data := #[124] })] r1110.2).bind fun r1111 =>
        (Qnil r1093.1).bind fun v1112 =>
        (QfieldAddr Tryd.prog 59 v1112 0).bind fun v1113 =>
        (QfieldAddr Tryd.prog 57 v1113 1).bind fun v1114 =>
        (Qload Tryd.prog 3 v1114 r1111.2).bind fun v1115 =>
        (QfieldAddr Tryd.prog 27 aE 2).bind fun v1116 =>
        (Xstore Tryd.prog 3 v1116 v1115 r1111.2).bind fun r1117 =>
        (Qnil r1093.1).bind fun v1118 =>
        (QfieldAddr Tryd.prog 59 v1118 1).bind fun v1119 =>
        (Qload Tryd.prog 4 v1119 r1117.2.drew).bind fun v1120 =>
        (guardQ v1120 false (Qnil (gv (isB v1120 false) r1093.1))).bind fun v1121 =>
        (guardQ v1120 false (QfieldAddr Tryd.prog 59 v1121 0)).bind fun v1122 =>
        (guardQ v1120 false (QfieldAddr Tryd.prog 57 v1122 1)).bind fun v1123 =>
        (guardQ v1120 false (Qload Tryd.prog 3 v1123 r1117.2.drew)).bind fun v1124 =>
        (guardQ v1120 false (Qload Tryd.prog 22 r1069.1 r1117.2.drew)).bind fun v1125 =>
        (guardQ v1120 false (Qlen Tryd.prog #[22] 3 #[v1125] r1117.2.drew)).bind fun v1126 =>
        (guardQ v1120 false (Qbin Tryd.prog .neq 3 v1124 v1126)).bind fun v1127 =>
        (Qpick v1120 (Value.bool true) v1127).bind fun v1128 =>
        (Qnil r1093.1).bind fun v1129 =>
        (QfieldAddr Tryd.prog 59 v1129 1).bind fun v1130 =>
        (Xstore Tryd.prog 4 v1130 v1128 r1117.2.drew).bind fun r1131 =>
        chkK True (
          s10K0 (Exit.goto 1) ⟨[aA,aB,aC,aD,aE, v1068, r1069.1, v1074, r1093.1, r1066.1, aA, r1066.1, v1067, v1068, v1068, v1071, aQ, v1074, v1074, r1075.1, aB, r1075.1, r1076.1, aX,aY,aZ,bA,bB,bC,bD,bE,bF,bG,bH,bI,bJ,bK,bL,bM,bN,bO,bP, v1074, r1093.1, r1093.1, r1094.1, r1093.1, v1095, v1096, v1097, v1098, v1099, r1093.1, r1101.1, r1093.1, r1102.1, v1103, v1104, r1093.1, r1106.1, r1093.1, r1107.1, v1108, v1109, r1093.1, r1111.1, r1093.1, v1112, v1113, v1114, v1115, v1116, r1093.1, r1093.1, v1118, v1119, v1120, v1120, (gv (isB v1120 false) r1093.1), v1121, v1122, v1123, v1124, v1125, v1126, v1127, v1128, v1129, v1130, dL,dM,dN,dO,dP,dQ,dR,dS,dT,dU,dV,dW,dX,dY,dZ,eA,eB,eC,eD,eE,eF,eG,eH,eI,eJ,eK,eL,eM,eN,eO,eP,eQ,eR,eS,eT,eU,eV,eW,eX,eY,eZ,fA,fB,fC,fD,fE,fF].toArray, []⟩ r1131.2
        )
      )
    )
  )
noncomputable def s10M0 (s0 s1 s4 : Value) (w : World) : Option (Value × World) :=
  (Xcall Tryd.prog (Value.func (Fn.func 19) #[] #[]) #[s0] w).bind fun r1066 =>
  (Qext r1066.1 0).bind fun v1067 =>
  (Qext r1066.1 1).bind fun v1068 =>
  (Xalloc Tryd.prog 22 r1066.2).bind fun r1069 =>
  (Xstore Tryd.prog 22 r1069.1 v1067 r1069.2).bind fun r1070 =>
  (Qun .not v1068).bind fun v1071 =>
  condK v1071 (
    (Qbuild Tryd.prog 27 #[] r1070.2).bind fun v1072 =>
    (Xstore Tryd.prog 27 s4 v1072 r1070.2).bind fun r1073 =>
    ((((Qload Tryd.prog 27 s4 r1073.2).bind fun v => ((((some [])).map fun vs => (Value.bool false) :: vs)).map fun vs => v :: vs)).map oneOf).map fun v => (v, r1073.2)
  ) (
    (some (Value.func (Go.Fn.func 20) #[] #[r1069.1])).bind fun v1074 =>
    (Xcall Tryd.prog v1074 #[] r1070.2).bind fun r1075 =>
    condK s1 (
      s10U0x63 s4 v1074 r1075.1 r1075.2
    ) (
      (Xcall Tryd.prog (Value.func (Fn.func 21) #[] #[]) #[r1075.1, (Value.string { data := #[80, 79, 82, 84, 32] })] r1075.2).bind fun r1076 =>
      condK r1076.1 (
        (Xcall Tryd.prog (Value.func (Fn.func 22) #[] #[]) #[r1075.1, (Value.int .i64 1)] r1076.2).bind fun r1077 =>
        (Xstore Tryd.prog 27 s4 r1077.1 r1077.2).bind fun r1078 =>
        (Qnil r1075.1).bind fun v1079 =>
        (QfieldAddr Tryd.prog 59 v1079 1).bind fun v1080 =>
        (Qload Tryd.prog 4 v1080 r1078.2.drew).bind fun v1081 =>
        (guardQ v1081 false (Qnil (gv (isB v1081 false) r1075.1))).bind fun v1082 =>
        (guardQ v1081 false (QfieldAddr Tryd.prog 59 v1082 0)).bind fun v1083 =>
        (guardQ v1081 false (QfieldAddr Tryd.prog 57 v1083 1)).bind fun v1084 =>
        (guardQ v1081 false (Qload Tryd.prog 3 v1084 r1078.2.drew)).bind fun v1085 =>
        (guardQ v1081 false (Qload Tryd.prog 22 r1069.1 r1078.2.drew)).bind fun v1086 =>
        (guardQ v1081 false (Qlen Tryd.prog #[22] 3 #[v1086] r1078.2.drew)).bind fun v1087 =>
        (guardQ v1081 false (Qbin Tryd.prog .neq 3 v1085 v1087)).bind fun v1088 =>
        (Qpick v1081 (Value.bool true) v1088).bind fun v1089 =>
        (Qnil r1075.1).bind fun v1090 =>
        (QfieldAddr Tryd.prog 59 v1090 1).bind fun v1091 =>
        (Xstore Tryd.prog 4 v1091 v1089 r1078.2.drew).bind fun r1092 =>
        chkK True (
          s10U1x63 s4 r1075.1 r1092.2
        )
      ) (
        (Xcall Tryd.prog v1074 #[] r1076.2).bind fun r1093 =>
        (Xcall Tryd.prog (Value.func (Fn.func 21) #[] #[]) #[r1093.1, (Value.string { data := #[69, 80, 82, 84, 32] })] r1093.2).bind fun r1094 =>
        (Qnil r1093.1).bind fun v1095 =>
        (QfieldAddr Tryd.prog 59 v1095 0).bind fun v1096 =>
        (QfieldAddr Tryd.prog 57 v1096 1).bind fun v1097 =>
        (Qload Tryd.prog 3 v1097 r1094.2).bind fun v1098 =>
        (Qbuild Tryd.prog 27 #[(0, (Value.int .i64 2)), (1, v1098)] r1094.2).bind fun v1099 =>
        (Xstore Tryd.prog 27 s4 v1099 r1094.2).bind fun r1100 =>
        (Xcall Tryd.prog (Value.func (Fn.func 21) #[] #[]) #[r1093.1, (Value.string { data := #[124, 49, 124] })] r1100.2).bind fun r1101 =>
        (Xcall Tryd.prog (Value.func (Fn.func 23) #[] #[]) #[r1093.1, (Value.int .i64 4), (Value.string { data := #[46] })] r1101.2).bind fun r1102 =>
        (Qconv Tryd.prog 63 24 r1102.1).bind fun v1103 =>
        (QfieldAddr Tryd.prog 27 s4 3).bind fun v1104 =>
        (Xstore Tryd.prog 24 v1104 v1103 r1102.2).bind fun r1105 =>
        (Xcall Tryd.prog (Value.func (Fn.func 21) #[] #[]) #[r1093.1, (Value.string { data := #[124] })] r1105.2).bind fun r1106 =>
        (Xcall Tryd.prog (Value.func (Fn.func 24) #[] #[]) #[r1093.1, (Value.int .i64 1), (Value.int .i64 65535)] r1106.2).bind fun r1107 =>
        (Qconv Tryd.prog 3 25 r1107.1).bind fun v1108 =>
        (QfieldAddr Tryd.prog 27 s4 4).bind fun v1109 =>
        (Xstore Tryd.prog 25 v1109 v1108 r1107.2).bind fun r1110 =>
        (Xcall Tryd.prog (Value.func (Fn.func 21) #[] #[]) #[r1093.1, (Value.string { data := #[124] })] r1110.2).bind fun r1111 =>
        (Qnil r1093.1).bind fun v1112 =>
        (QfieldAddr Tryd.prog 59 v1112 0).bind fun v1113 =>
        (QfieldAddr Tryd.prog 57 v1113 1).bind fun v1114 =>
        (Qload Tryd.prog 3 v1114 r1111.2).bind fun v1115 =>
        (QfieldAddr Tryd.prog 27 s4 2).bind fun v1116 =>
        (Xstore Tryd.prog 3 v1116 v1115 r1111.2).bind fun r1117 =>
        (Qnil r1093.1).bind fun v1118 =>
        (QfieldAddr Tryd.prog 59 v1118 1).bind fun v1119 =>
        (Qload Tryd.prog 4 v1119 r1117.2.drew).bind fun v1120 =>
        (guardQ v1120 false (Qnil (gv (isB v1120 false) r1093.1))).bind fun v1121 =>
        (guardQ v1120 false (QfieldAddr Tryd.prog 59 v1121 0)).bind fun v1122 =>
        (guardQ v1120 false (QfieldAddr Tryd.prog 57 v1122 1)).bind fun v1123 =>
        (guardQ v1120 false (Qload Tryd.prog 3 v1123 r1117.2.drew)).bind fun v1124 =>
        (guardQ v1120 false (Qload Tryd.prog 22 r1069.1 r1117.2.drew)).bind fun v1125 =>
        (guardQ v1120 false (Qlen Tryd.prog #[22] 3 #[v1125] r1117.2.drew)).bind fun v1126 =>
        (guardQ v1120 false (Qbin Tryd.prog .neq 3 v1124 v1126)).bind fun v1127 =>
        (Qpick v1120 (Value.bool true) v1127).bind fun v1128 =>
        (Qnil r1093.1).bind fun v1129 =>
        (QfieldAddr Tryd.prog 59 v1129 1).bind fun v1130 =>
        (Xstore Tryd.prog 4 v1130 v1128 r1117.2.drew).bind fun r1131 =>
        chkK True (
          s10U1x63 s4 r1093.1 r1131.2
        )
      )
    )
  )
noncomputable def s10raw (x0 x1 : Value) (w : World) : Option (Value × World) :=
  (Xalloc Tryd.prog 27 w).bind fun r1065 =>
  evK Tryd.prog 10 none (nav [1] (bodyOf Tryd.f10)) none _ ⟨[x0, x1, undef, undef, r1065.1, (Value.bool false), undef, undef, undef, undef, undef, undef, undef, undef, undef, undef, undef, undef, undef, undef, undef, undef, undef, undef, undef, undef, undef, undef, undef, undef, undef, undef, undef, undef, undef, undef, undef, undef, undef, undef, undef, undef, undef, undef, undef, undef, undef, undef, undef, undef, undef, undef, undef, undef, undef, undef, undef, undef, undef, undef, undef, undef, undef, undef, undef, undef, undef, undef, undef, undef, undef, undef, undef, undef, undef, undef, undef, undef, undef, undef, undef, undef, undef, undef, undef, undef, undef, undef, undef, undef, undef, undef, undef, undef, undef, undef, undef, undef, undef, undef, undef, undef, undef, undef, undef, undef, undef, undef, undef, undef, undef, undef, undef, undef, undef, undef, undef, undef, undef, undef, undef, undef, undef, undef, undef, undef, undef, undef, undef, undef, undef, undef, undef, undef, undef, undef].toArray, []⟩ r1065.2 (leaveK Tryd.prog Tryd.f10)
noncomputable def s10 (x0 x1 : Value) (w : World) : Option (Value × World) :=
  (Xalloc Tryd.prog 27 w).bind fun r1065 =>
  s10M0 x0 x1 r1065.1 r1065.2
set_option maxRecDepth 100000 in
theorem s10J1eq (w : World) : s10J1 [aA,aB,aC,aD,aE,aF,aG,aH,aI,aJ,aK,aL,aM,aN,aO,aP,aQ,aR,aS,aT,aU,aV,aW,aX,aY,aZ,bA,bB,bC,bD,bE,bF,bG,bH,bI,bJ,bK,bL,bM,bN,bO,bP,bQ,bR,bS,bT,bU,bV,bW,bX,bY,bZ,cA,cB,cC,cD,cE,cF,cG,cH,cI,cJ,cK,cL,cM,cN,cO,cP,cQ,cR,cS,cT,cU,cV,cW,cX,cY,cZ,dA,dB,dC,dD,dE,dF,dG,dH,dI,dJ,dK,dL,dM,dN,dO,dP,dQ,dR,dS,dT,dU,dV,dW,dX,dY,dZ,eA,eB,eC,eD,eE,eF,eG,eH,eI,eJ,eK,eL,eM,eN,eO,eP,eQ,eR,eS,eT,eU,eV,eW,eX,eY,eZ,fA,fB,fC,fD,fE,fF] [] w = s10M1 aE aI w := (show _ = evK Tryd.prog 10 none (nav [1, 0, 1, 1, 1, 1, 1, 1, 1, 1, 1, 1, 1, 1, 1, 1, 1, 1, 1, 1, 1, 1, 1, 1] (bodyOf Tryd.f10)) none _ ⟨[aA,aB,aC,aD,aE,aF,aG,aH,aI,aJ,aK,aL,aM,aN,aO,aP,aQ,aR,aS,aT,aU,aV,aW,aX,aY,aZ,bA,bB,bC,bD,bE,bF,bG,bH,bI,bJ,bK,bL,bM,bN,bO,bP,bQ,bR,bS,bT,bU,bV,bW,bX,bY,bZ,cA,cB,cC,cD,cE,cF,cG,cH,cI,cJ,cK,cL,cM,cN,cO,cP,cQ,cR,cS,cT,cU,cV,cW,cX,cY,cZ,dA,dB,dC,dD,dE,dF,dG,dH,dI,dJ,dK,dL,dM,dN,dO,dP,dQ,dR,dS,dT,dU,dV,dW,dX,dY,dZ,eA,eB,eC,eD,eE,eF,eG,eH,eI,eJ,eK,eL,eM,eN,eO,eP,eQ,eR,eS,eT,eU,eV,eW,eX,eY,eZ,fA,fB,fC,fD,fE,fF].toArray, []⟩ w s10K2 from by kernel_rfl).trans (by kernel_rfl)
set_option maxRecDepth 100000 in
theorem s10J1of {w : World} {r : _} (h : s10M1 aE aI w = some r) : s10J1 [aA,aB,aC,aD,aE,aF,aG,aH,aI,aJ,aK,aL,aM,aN,aO,aP,aQ,aR,aS,aT,aU,aV,aW,aX,aY,aZ,bA,bB,bC,bD,bE,bF,bG,bH,bI,bJ,bK,bL,bM,bN,bO,bP,bQ,bR,bS,bT,bU,bV,bW,bX,bY,bZ,cA,cB,cC,cD,cE,cF,cG,cH,cI,cJ,cK,cL,cM,cN,cO,cP,cQ,cR,cS,cT,cU,cV,cW,cX,cY,cZ,dA,dB,dC,dD,dE,dF,dG,dH,dI,dJ,dK,dL,dM,dN,dO,dP,dQ,dR,dS,dT,dU,dV,dW,dX,dY,dZ,eA,eB,eC,eD,eE,eF,eG,eH,eI,eJ,eK,eL,eM,eN,eO,eP,eQ,eR,eS,eT,eU,eV,eW,eX,eY,eZ,fA,fB,fC,fD,fE,fF] [] w = some r :=
  ((s10J1eq w).trans h)
set_option maxRecDepth 100000 in
theorem s10U1x62eq (aA aB aC aD aE aF aG aH aI aJ aK aL aM aN aO aP aQ aR aS aT aU aV aW aX aY aZ bA bB bC bD bE bF bG bH bI bJ bK bL bM bN bO bP bQ bR bS bT bU bV bW bX bY bZ cA cB cC cD cE cF cG cH cI cJ cK cL cM cN cO cP cQ cR cS cT cU cV cW cX cY cZ dA dB dC dD dE dF dG dH dI dJ dK dL dM dN dO dP dQ dR dS dT dU dV dW dX dY dZ eA eB eC eD eE eF eG eH eI eJ eK eL eM eN eO eP eQ eR eS eT eU eV eW eX eY eZ fA fB fC fD fE fF : Value) (w : World) : evK Tryd.prog 10 none (nav [1, 0] (bodyOf Tryd.f10)) (some 1) _ ⟨[aA,aB,aC,aD,aE,aF,aG,aH,aI,aJ,aK,aL,aM,aN,aO,aP,aQ,aR,aS,aT,aU,aV,aW,aX,aY,aZ,bA,bB,bC,bD,bE,bF,bG,bH,bI,bJ,bK,bL,bM,bN,bO,bP,bQ,bR,bS,bT,bU,bV,bW,bX,bY,bZ,cA,cB,cC,cD,cE,cF,cG,cH,cI,cJ,cK,cL,cM,cN,cO,cP,cQ,cR,cS,cT,cU,cV,cW,cX,cY,cZ,dA,dB,dC,dD,dE,dF,dG,dH,dI,dJ,dK,dL,dM,dN,dO,dP,dQ,dR,dS,dT,dU,dV,dW,dX,dY,dZ,eA,eB,eC,eD,eE,eF,eG,eH,eI,eJ,eK,eL,eM,eN,eO,eP,eQ,eR,eS,eT,eU,eV,eW,eX,eY,eZ,fA,fB,fC,fD,fE,fF].toArray, []⟩ w s10K4 = s10U1x62 aE aI w := by kernel_rfl
set_option maxRecDepth 100000 in
theorem s10U1x62of {aA aB aC aD aE aF aG aH aI aJ aK aL aM aN aO aP aQ aR aS aT aU aV aW aX aY aZ bA bB bC bD bE bF bG bH bI bJ bK bL bM bN bO bP bQ bR bS bT bU bV bW bX bY bZ cA cB cC cD cE cF cG cH cI cJ cK cL cM cN cO cP cQ cR cS cT cU cV cW cX cY cZ dA dB dC dD dE dF dG dH dI dJ dK dL dM dN dO dP dQ dR dS dT dU dV dW dX dY dZ eA eB eC eD eE eF eG eH eI eJ eK eL eM eN eO eP eQ eR eS eT eU eV eW eX eY eZ fA fB fC fD fE fF : Value} {w : World} {r : _} (h : s10U1x62 aE aI w = some r) : s10K2 (Exit.goto 1) ⟨[aA,aB,aC,aD,aE,aF,aG,aH,aI,aJ,aK,aL,aM,aN,aO,aP,aQ,aR,aS,aT,aU,aV,aW,aX,aY,aZ,bA,bB,bC,bD,bE,bF,bG,bH,bI,bJ,bK,bL,bM,bN,bO,bP,bQ,bR,bS,bT,bU,bV,bW,bX,bY,bZ,cA,cB,cC,cD,cE,cF,cG,cH,cI,cJ,cK,cL,cM,cN,cO,cP,cQ,cR,cS,cT,cU,cV,cW,cX,cY,cZ,dA,dB,dC,dD,dE,dF,dG,dH,dI,dJ,dK,dL,dM,dN,dO,dP,dQ,dR,dS,dT,dU,dV,dW,dX,dY,dZ,eA,eB,eC,eD,eE,eF,eG,eH,eI,eJ,eK,eL,eM,eN,eO,eP,eQ,eR,eS,eT,eU,eV,eW,eX,eY,eZ,fA,fB,fC,fD,fE,fF].toArray, []⟩ w = some r :=
  goto_of (n := 61) (by kernel_rfl) ((s10U1x62eq _ _ _ _ _ _ _ _ _ _ _ _ _ _ _ _ _ _ _ _ _ _ _ _ _ _ _ _ _ _ _ _ _ _ _ _ _ _ _ _ _ _ _ _ _ _ _ _ _ _ _ _ _ _ _ _ _ _ _ _ _ _ _ _ _ _ _ _ _ _ _ _ _ _ _ _ _ _ _ _ _ _ _ _ _ _ _ _ _ _ _ _ _ _ _ _ _ _ _ _ _ _ _ _ _ _ _ _ _ _ _ _ _ _ _ _ _ _ _ _ _ _ _ _ _ _ _ _ _ _ _ _ _ _ _ _ w).trans h)
set_option maxRecDepth 100000 in
theorem s10U1x63eq (aA aB aC aD aE aF aG aH aI aJ aK aL aM aN aO aP aQ aR aS aT aU aV aW aX aY aZ bA bB bC bD bE bF bG bH bI bJ bK bL bM bN bO bP bQ bR bS bT bU bV bW bX bY bZ cA cB cC cD cE cF cG cH cI cJ cK cL cM cN cO cP cQ cR cS cT cU cV cW cX cY cZ dA dB dC dD dE dF dG dH dI dJ dK dL dM dN dO dP dQ dR dS dT dU dV dW dX dY dZ eA eB eC eD eE eF eG eH eI eJ eK eL eM eN eO eP eQ eR eS eT eU eV eW eX eY eZ fA fB fC fD fE fF : Value) (w : World) : evK Tryd.prog 10 none (nav [1, 0] (bodyOf Tryd.f10)) (some 1) _ ⟨[aA,aB,aC,aD,aE,aF,aG,aH,aI,aJ,aK,aL,aM,aN,aO,aP,aQ,aR,aS,aT,aU,aV,aW,aX,aY,aZ,bA,bB,bC,bD,bE,bF,bG,bH,bI,bJ,bK,bL,bM,bN,bO,bP,bQ,bR,bS,bT,bU,bV,bW,bX,bY,bZ,cA,cB,cC,cD,cE,cF,cG,cH,cI,cJ,cK,cL,cM,cN,cO,cP,cQ,cR,cS,cT,cU,cV,cW,cX,cY,cZ,dA,dB,dC,dD,dE,dF,dG,dH,dI,dJ,dK,dL,dM,dN,dO,dP,dQ,dR,dS,dT,dU,dV,dW,dX,dY,dZ,eA,eB,eC,eD,eE,eF,eG,eH,eI,eJ,eK,eL,eM,eN,eO,eP,eQ,eR,eS,eT,eU,eV,eW,eX,eY,eZ,fA,fB,fC,fD,fE,fF].toArray, []⟩ w s10K2 = s10U1x63 aE aI w := by kernel_rfl
set_option maxRecDepth 100000 in
theorem s10U1x63of {aA aB aC aD aE aF aG aH aI aJ aK aL aM aN aO aP aQ aR aS aT aU aV aW aX aY aZ bA bB bC bD bE bF bG bH bI bJ bK bL bM bN bO bP bQ bR bS bT bU bV bW bX bY bZ cA cB cC cD cE cF cG cH cI cJ cK cL cM cN cO cP cQ cR cS cT cU cV cW cX cY cZ dA dB dC dD dE dF dG dH dI dJ dK dL dM dN dO dP dQ dR dS dT dU dV dW dX dY dZ eA eB eC eD eE eF eG eH eI eJ eK eL eM eN eO eP eQ eR eS eT eU eV eW eX eY eZ fA fB fC fD fE fF : Value} {w : World} {r : _} (h : s10U1x63 aE aI w = some r) : s10K0 (Exit.goto 1) ⟨[aA,aB,aC,aD,aE,aF,aG,aH,aI,aJ,aK,aL,aM,aN,aO,aP,aQ,aR,aS,aT,aU,aV,aW,aX,aY,aZ,bA,bB,bC,bD,bE,bF,bG,bH,bI,bJ,bK,bL,bM,bN,bO,bP,bQ,bR,bS,bT,bU,bV,bW,bX,bY,bZ,cA,cB,cC,cD,cE,cF,cG,cH,cI,cJ,cK,cL,cM,cN,cO,cP,cQ,cR,cS,cT,cU,cV,cW,cX,cY,cZ,dA,dB,dC,dD,dE,dF,dG,dH,dI,dJ,dK,dL,dM,dN,dO,dP,dQ,dR,dS,dT,dU,dV,dW,dX,dY,dZ,eA,eB,eC,eD,eE,eF,eG,eH,eI,eJ,eK,eL,eM,eN,eO,eP,eQ,eR,eS,eT,eU,eV,eW,eX,eY,eZ,fA,fB,fC,fD,fE,fF].toArray, []⟩ w = some r :=
  goto_of (n := 62) (by kernel_rfl) ((s10U1x63eq _ _ _ _ _ _ _ _ _ _ _ _ _ _ _ _ _ _ _ _ _ _ _ _ _ _ _ _ _ _ _ _ _ _ _ _ _ _ _ _ _ _ _ _ _ _ _ _ _ _ _ _ _ _ _ _ _ _ _ _ _ _ _ _ _ _ _ _ _ _ _ _ _ _ _ _ _ _ _ _ _ _ _ _ _ _ _ _ _ _ _ _ _ _ _ _ _ _ _ _ _ _ _ _ _ _ _ _ _ _ _ _ _ _ _ _ _ _ _ _ _ _ _ _ _ _ _ _ _ _ _ _ _ _ _ _ w).trans h)
set_option maxRecDepth 100000 in
theorem s10U0x63eq (aA aB aC aD aE aF aG aH aI aJ aK aL aM aN aO aP aQ aR aS aT aU aV aW aX aY aZ bA bB bC bD bE bF bG bH bI bJ bK bL bM bN bO bP bQ bR bS bT bU bV bW bX bY bZ cA cB cC cD cE cF cG cH cI cJ cK cL cM cN cO cP cQ cR cS cT cU cV cW cX cY cZ dA dB dC dD dE dF dG dH dI dJ dK dL dM dN dO dP dQ dR dS dT dU dV dW dX dY dZ eA eB eC eD eE eF eG eH eI eJ eK eL eM eN eO eP eQ eR eS eT eU eV eW eX eY eZ fA fB fC fD fE fF : Value) (w : World) : evK Tryd.prog 10 none (nav [1, 0] (bodyOf Tryd.f10)) (some 0) _ ⟨[aA,aB,aC,aD,aE,aF,aG,aH,aI,aJ,aK,aL,aM,aN,aO,aP,aQ,aR,aS,aT,aU,aV,aW,aX,aY,aZ,bA,bB,bC,bD,bE,bF,bG,bH,bI,bJ,bK,bL,bM,bN,bO,bP,bQ,bR,bS,bT,bU,bV,bW,bX,bY,bZ,cA,cB,cC,cD,cE,cF,cG,cH,cI,cJ,cK,cL,cM,cN,cO,cP,cQ,cR,cS,cT,cU,cV,cW,cX,cY,cZ,dA,dB,dC,dD,dE,dF,dG,dH,dI,dJ,dK,dL,dM,dN,dO,dP,dQ,dR,dS,dT,dU,dV,dW,dX,dY,dZ,eA,eB,eC,eD,eE,eF,eG,eH,eI,eJ,eK,eL,eM,eN,eO,eP,eQ,eR,eS,eT,eU,eV,eW,eX,eY,eZ,fA,fB,fC,fD,fE,fF].toArray, []⟩ w s10K2 = s10U0x63raw aA aB aC aD aE aF aG aH aI aJ aK aL aM aN aO aP aQ aR aS aT aU aV aW aX aY aZ bA bB bC bD bE bF bG bH bI bJ bK bL bM bN bO bP bQ bR bS bT bU bV bW bX bY bZ cA cB cC cD cE cF cG cH cI cJ cK cL cM cN cO cP cQ cR cS cT cU cV cW cX cY cZ dA dB dC dD dE dF dG dH dI dJ dK dL dM dN dO dP dQ dR dS dT dU dV dW dX dY dZ eA eB eC eD eE eF eG eH eI eJ eK eL eM eN eO eP eQ eR eS eT eU eV eW eX eY eZ fA fB fC fD fE fF w := by kernel_rfl
set_option maxRecDepth 100000 in
theorem s10U0x63of {aA aB aC aD aE aF aG aH aI aJ aK aL aM aN aO aP aQ aR aS aT aU aV aW aX aY aZ bA bB bC bD bE bF bG bH bI bJ bK bL bM bN bO bP bQ bR bS bT bU bV bW bX bY bZ cA cB cC cD cE cF cG cH cI cJ cK cL cM cN cO cP cQ cR cS cT cU cV cW cX cY cZ dA dB dC dD dE dF dG dH dI dJ dK dL dM dN dO dP dQ dR dS dT dU dV dW dX dY dZ eA eB eC eD eE eF eG eH eI eJ eK eL eM eN eO eP eQ eR eS eT eU eV eW eX eY eZ fA fB fC fD fE fF : Value} {w : World} {r : _} (h : s10U0x63 aE aH aI w = some r) : s10K0 (Exit.goto 0) ⟨[aA,aB,aC,aD,aE,aF,aG,aH,aI,aJ,aK,aL,aM,aN,aO,aP,aQ,aR,aS,aT,aU,aV,aW,aX,aY,aZ,bA,bB,bC,bD,bE,bF,bG,bH,bI,bJ,bK,bL,bM,bN,bO,bP,bQ,bR,bS,bT,bU,bV,bW,bX,bY,bZ,cA,cB,cC,cD,cE,cF,cG,cH,cI,cJ,cK,cL,cM,cN,cO,cP,cQ,cR,cS,cT,cU,cV,cW,cX,cY,cZ,dA,dB,dC,dD,dE,dF,dG,dH,dI,dJ,dK,dL,dM,dN,dO,dP,dQ,dR,dS,dT,dU,dV,dW,dX,dY,dZ,eA,eB,eC,eD,eE,eF,eG,eH,eI,eJ,eK,eL,eM,eN,eO,eP,eQ,eR,eS,eT,eU,eV,eW,eX,eY,eZ,fA,fB,fC,fD,fE,fF].toArray, []⟩ w = some r :=
  goto_of (n := 62) (by kernel_rfl) ((s10U0x63eq _ _ _ _ _ _ _ _ _ _ _ _ _ _ _ _ _ _ _ _ _ _ _ _ _ _ _ _ _ _ _ _ _ _ _ _ _ _ _ _ _ _ _ _ _ _ _ _ _ _ _ _ _ _ _ _ _ _ _ _ _ _ _ _ _ _ _ _ _ _ _ _ _ _ _ _ _ _ _ _ _ _ _ _ _ _ _ _ _ _ _ _ _ _ _ _ _ _ _ _ _ _ _ _ _ _ _ _ _ _ _ _ _ _ _ _ _ _ _ _ _ _ _ _ _ _ _ _ _ _ _ _ _ _ _ _ w).trans ((Ev.bind_mono fun (_ : Value × World) => (condK_mono (Ev.bind_mono fun (_ : Value × World) => (Ev.bind_mono fun (_ : Value × World) => (Ev.bind_mono fun (_ : Value × World) => (Ev.bind_mono fun (_ : Value × World) => (Ev.bind_mono fun (_ : Value × World) => (s10U1x62of)))))) (Ev.bind_mono fun (_ : Value × World) => (Ev.bind_mono fun (_ : Value × World) => (Ev.bind_mono fun (_ : Value) => (Ev.bind_mono fun (_ : Value) => (Ev.bind_mono fun (_ : Value) => (Ev.bind_mono fun (_ : Value) => (condK_mono (Ev.bind_mono fun (_ : Value × World) => (s10J1of)) (s10J1of)))))))))) h))
set_option maxRecDepth 100000 in
theorem s10J0eq (w : World) : s10J0 [aA,aB,aC,aD,aE,aF,aG,aH,aI,aJ,aK,aL,aM,aN,aO,aP,aQ,aR,aS,aT,aU,aV,aW,aX,aY,aZ,bA,bB,bC,bD,bE,bF,bG,bH,bI,bJ,bK,bL,bM,bN,bO,bP,bQ,bR,bS,bT,bU,bV,bW,bX,bY,bZ,cA,cB,cC,cD,cE,cF,cG,cH,cI,cJ,cK,cL,cM,cN,cO,cP,cQ,cR,cS,cT,cU,cV,cW,cX,cY,cZ,dA,dB,dC,dD,dE,dF,dG,dH,dI,dJ,dK,dL,dM,dN,dO,dP,dQ,dR,dS,dT,dU,dV,dW,dX,dY,dZ,eA,eB,eC,eD,eE,eF,eG,eH,eI,eJ,eK,eL,eM,eN,eO,eP,eQ,eR,eS,eT,eU,eV,eW,eX,eY,eZ,fA,fB,fC,fD,fE,fF] [] w = s10M0raw aA aB aC aD aE aF aG aH aI aJ aK aL aM aN aO aP aQ aR aS aT aU aV aW aX aY aZ bA bB bC bD bE bF bG bH bI bJ bK bL bM bN bO bP bQ bR bS bT bU bV bW bX bY bZ cA cB cC cD cE cF cG cH cI cJ cK cL cM cN cO cP cQ cR cS cT cU cV cW cX cY cZ dA dB dC dD dE dF dG dH dI dJ dK dL dM dN dO dP dQ dR dS dT dU dV dW dX dY dZ eA eB eC eD eE eF eG eH eI eJ eK eL eM eN eO eP eQ eR eS eT eU eV eW eX eY eZ fA fB fC fD fE fF w := (show _ = evK Tryd.prog 10 none (nav [1, 0] (bodyOf Tryd.f10)) none _ ⟨[aA,aB,aC,aD,aE,aF,aG,aH,aI,aJ,aK,aL,aM,aN,aO,aP,aQ,aR,aS,aT,aU,aV,aW,aX,aY,aZ,bA,bB,bC,bD,bE,bF,bG,bH,bI,bJ,bK,bL,bM,bN,bO,bP,bQ,bR,bS,bT,bU,bV,bW,bX,bY,bZ,cA,cB,cC,cD,cE,cF,cG,cH,cI,cJ,cK,cL,cM,cN,cO,cP,cQ,cR,cS,cT,cU,cV,cW,cX,cY,cZ,dA,dB,dC,dD,dE,dF,dG,dH,dI,dJ,dK,dL,dM,dN,dO,dP,dQ,dR,dS,dT,dU,dV,dW,dX,dY,dZ,eA,eB,eC,eD,eE,eF,eG,eH,eI,eJ,eK,eL,eM,eN,eO,eP,eQ,eR,eS,eT,eU,eV,eW,eX,eY,eZ,fA,fB,fC,fD,fE,fF].toArray, []⟩ w s10K0 from by kernel_rfl).trans (by kernel_rfl)
set_option maxRecDepth 100000 in
theorem s10J0of {w : World} {r : _} (h : s10M0 aA aB aE w = some r) : s10J0 [aA,aB,aC,aD,aE,aF,aG,aH,aI,aJ,aK,aL,aM,aN,aO,aP,aQ,aR,aS,aT,aU,aV,aW,aX,aY,aZ,bA,bB,bC,bD,bE,bF,bG,bH,bI,bJ,bK,bL,bM,bN,bO,bP,bQ,bR,bS,bT,bU,bV,bW,bX,bY,bZ,cA,cB,cC,cD,cE,cF,cG,cH,cI,cJ,cK,cL,cM,cN,cO,cP,cQ,cR,cS,cT,cU,cV,cW,cX,cY,cZ,dA,dB,dC,dD,dE,dF,dG,dH,dI,dJ,dK,dL,dM,dN,dO,dP,dQ,dR,dS,dT,dU,dV,dW,dX,dY,dZ,eA,eB,eC,eD,eE,eF,eG,eH,eI,eJ,eK,eL,eM,eN,eO,eP,eQ,eR,eS,eT,eU,eV,eW,eX,eY,eZ,fA,fB,fC,fD,fE,fF] [] w = some r :=
  ((s10J0eq w).trans ((Ev.bind_mono fun (_ : Value × World) => (Ev.bind_mono fun (_ : Value) => (Ev.bind_mono fun (_ : Value) => (Ev.bind_mono fun (_ : Value × World) => (Ev.bind_mono fun (_ : Value × World) => (Ev.bind_mono fun (_ : Value) => (condK_mono id (Ev.bind_mono fun (_ : Value) => (Ev.bind_mono fun (_ : Value × World) => (condK_mono (s10U0x63of) (Ev.bind_mono fun (_ : Value × World) => (condK_mono (Ev.bind_mono fun (_ : Value × World) => (Ev.bind_mono fun (_ : Value × World) => (Ev.bind_mono fun (_ : Value) => (Ev.bind_mono fun (_ : Value) => (Ev.bind_mono fun (_ : Value) => (Ev.bind_mono fun (_ : Value) => (Ev.bind_mono fun (_ : Value) => (Ev.bind_mono fun (_ : Value) => (Ev.bind_mono fun (_ : Value) => (Ev.bind_mono fun (_ : Value) => (Ev.bind_mono fun (_ : Value) => (Ev.bind_mono fun (_ : Value) => (Ev.bind_mono fun (_ : Value) => (Ev.bind_mono fun (_ : Value) => (Ev.bind_mono fun (_ : Value) => (Ev.bind_mono fun (_ : Value × World) => (chkK_mono (s10U1x63of)))))))))))))))))) (Ev.bind_mono fun (_ : Value × World) => (Ev.bind_mono fun (_ : Value × World) => (Ev.bind_mono fun (_ : Value) => (Ev.bind_mono fun (_ : Value) => (Ev.bind_mono fun (_ : Value) => (Ev.bind_mono fun (_ : Value) => (Ev.bind_mono fun (_ : Value) => (Ev.bind_mono fun (_ : Value × World) => (Ev.bind_mono fun (_ : Value × World) => (Ev.bind_mono fun (_ : Value × World) => (Ev.bind_mono fun (_ : Value) => (Ev.bind_mono fun (_ : Value) => (Ev.bind_mono fun (_ : Value × World) => (Ev.bind_mono fun (_ : Value × World) => (Ev.bind_mono fun (_ : Value × World) => (Ev.bind_mono fun (_ : Value) => (Ev.bind_mono fun (_ : Value) => (Ev.bind_mono fun (_ : Value × World) => (Ev.bind_mono fun (_ : Value × World) => (Ev.bind_mono fun (_ : Value) => (Ev.bind_mono fun (_ : Value) => (Ev.bind_mono fun (_ : Value) => (Ev.bind_mono fun (_ : Value) => (Ev.bind_mono fun (_ : Value) => (Ev.bind_mono fun (_ : Value × World) => (Ev.bind_mono fun (_ : Value) => (Ev.bind_mono fun (_ : Value) => (Ev.bind_mono fun (_ : Value) => (Ev.bind_mono fun (_ : Value) => (Ev.bind_mono fun (_ : Value) => (Ev.bind_mono fun (_ : Value) => (Ev.bind_mono fun (_ : Value) => (Ev.bind_mono fun (_ : Value) => (Ev.bind_mono fun (_ : Value) => (Ev.bind_mono fun (_ : Value) => (Ev.bind_mono fun (_ : Value) => (Ev.bind_mono fun (_ : Value) => (Ev.bind_mono fun (_ : Value) => (Ev.bind_mono fun (_ : Value × World) => (chkK_mono (s10U1x63of))))))))))))))))))))))))))))))))))))))))))))))))))))) h))
theorem s10eq (x0 x1 : Value) (w : World) : evK Tryd.prog 10 none (bodyOf Tryd.f10) none _ { tmps := (([x0, x1] : List Value) ++ List.replicate (136 - 2) undef).toArray, defers := [] } w (leaveK Tryd.prog Tryd.f10) = s10raw x0 x1 w := by kernel_rfl
set_option maxRecDepth 100000 in
theorem c10 {x0 x1 : Value} {w : World} {r : Value × World} (h : s10 x0 x1 w = some r) : C Tryd.prog 10 #[x0, x1] w = some r :=
  C_ev follows_all drawLaw (by kernel_rfl) Tryd.func10 (by rfl) ((s10eq x0 x1 w).trans (show s10raw x0 x1 w = some r from (Ev.bind_mono fun (_ : Value × World) => (fun h => gscope_of (c := (nav [1, 0] (bodyOf Tryd.f10))) (by kernel_rfl) (s10J0of h))) h))
theorem e10 {x0 x1 : Value} {w : World} {Q : Value × World → Prop} (h : Brings (s10 x0 x1 w) Q) : Brings (Xcall Tryd.prog (Value.func (Fn.func 10) #[] #[]) #[x0, x1] w) Q :=
  h.call (Xcall_fn Tryd.func10 (by decide +kernel) (by rfl) _ _ _ w) fun _ h => c10 h

/-! lychgate/ftp.Text -/
noncomputable def s13K0 : Exit → Act → World → Option (Value × World) := seqK (fun a w => evK Tryd.prog 13 none (nav [1, 1, 1] (bodyOf Tryd.f13)) none _ a w (leaveK Tryd.prog Tryd.f13)) (leaveK Tryd.prog Tryd.f13)
noncomputable def s13K1 : Exit → Act → World → Option (Value × World) := blockK 0 s13K0
noncomputable def s13K2 : Exit → Act → World → Option (Value × World) := seqK (fun a w => evK Tryd.prog 13 none (nav [1, 1, 0, 1, 0, 1] (bodyOf Tryd.f13)) none _ a w s13K1) s13K1
noncomputable def s13J0 (s : List Value) (d : List Deferred) (w : World) : Option (Value × World) := s13K2 .normal ⟨s.toArray, d⟩ w
noncomputable def s13M0 (s1 s2 s7 s11 s12 : Value) (w : World) : Option (Value × World) :=
  condK s12 (
    (Xcall Tryd.prog (Value.func (Fn.func 34) #[] #[]) #[s1, (Value.string { data := #[44] })] w).bind fun r1188 =>
    (Qbin Tryd.prog .add 9 r1188.1 (Value.string { data := #[44] })).bind fun v1189 =>
    (Qbin Tryd.prog .shr 25 s2 (Value.int .u64 8)).bind fun v1190 =>
    (Qconv Tryd.prog 25 3 v1190).bind fun v1191 =>
    (Xcall Tryd.prog (Value.func (Fn.func 33) #[] #[]) #[v1191] r1188.2).bind fun r1192 =>
    (Qbin Tryd.prog .add 9 v1189 r1192.1).bind fun v1193 =>
    (Qbin Tryd.prog .add 9 v1193 (Value.string { data := #[44] })).bind fun v1194 =>
    (Qbin Tryd.prog .and 25 s2 (Value.int .u16 255)).bind fun v1195 =>
    (Qconv Tryd.prog 25 3 v1195).bind fun v1196 =>
    (Xcall Tryd.prog (Value.func (Fn.func 33) #[] #[]) #[v1196] r1192.2).bind fun r1197 =>
    (Qbin Tryd.prog .add 9 v1194 r1197.1).bind fun v1198 =>
    (Xconv Tryd.prog 9 22 v1198 r1197.2).bind fun r1199 =>
    some (r1199.1, r1199.2)
  ) (
    (Qbin Tryd.prog .eql 23 s11 (Value.int .i64 2)).bind fun v1200 =>
    condK v1200 (
      (Xcall Tryd.prog (Value.func (Fn.func 34) #[] #[]) #[s1, (Value.string { data := #[46] })] w).bind fun r1201 =>
      (Qbin Tryd.prog .add 9 (Value.string { data := #[124, 49, 124] }) r1201.1).bind fun v1202 =>
      (Qbin Tryd.prog .add 9 v1202 (Value.string { data := #[124] })).bind fun v1203 =>
      (Qbin Tryd.prog .add 9 v1203 s7).bind fun v1204 =>
      (Qbin Tryd.prog .add 9 v1204 (Value.string { data := #[124] })).bind fun v1205 =>
      (Xconv Tryd.prog 9 22 v1205 r1201.2).bind fun r1206 =>
      some (r1206.1, r1206.2)
    ) (
      (Qbin Tryd.prog .eql 23 s11 (Value.int .i64 4)).bind fun v1207 =>
      condK v1207 (
        (Xconv Tryd.prog 9 22 s7 w).bind fun r1208 =>
        some (r1208.1, r1208.2)
      ) (
        some ((Value.slice none 0 0), w)
      )
    )
  )
noncomputable def s13raw (x0 x1 x2 : Value) (w : World) : Option (Value × World) :=
  (Qconv Tryd.prog 25 3 x2).bind fun v1184 =>
  (Xcall Tryd.prog (Value.func (Fn.func 33) #[] #[]) #[v1184] w).bind fun r1185 =>
  (Qbin Tryd.prog .eql 23 x0 (Value.int .i64 1)).bind fun v1186 =>
  condK v1186 (
    s13J0 [x0, x1, x2, undef, undef, undef, (Value.slice none 0 0), r1185.1, x2, v1184, r1185.1, x0, v1186, v1186, undef, undef, undef, undef, undef, undef, undef, undef, undef, undef, undef, undef, undef, undef, undef, undef, undef, undef, undef, undef, undef, undef, undef, undef, undef, undef, undef, undef, undef, undef] [] r1185.2
  ) (
    (Qbin Tryd.prog .eql 23 x0 (Value.int .i64 3)).bind fun v1187 =>
    s13J0 [x0, x1, x2, undef, undef, undef, (Value.slice none 0 0), r1185.1, x2, v1184, r1185.1, x0, v1187, v1186, v1187, undef, undef, undef, undef, undef, undef, undef, undef, undef, undef, undef, undef, undef, undef, undef, undef, undef, undef, undef, undef, undef, undef, undef, undef, undef, undef, undef, undef, undef] [] r1185.2
  )
noncomputable def s13 (x0 x1 x2 : Value) (w : World) : Option (Value × World) :=
  (Qconv Tryd.prog 25 3 x2).bind fun v1184 =>
  (Xcall Tryd.prog (Value.func (Fn.func 33) #[] #[]) #[v1184] w).bind fun r1185 =>
  (Qbin Tryd.prog .eql 23 x0 (Value.int .i64 1)).bind fun v1186 =>
  condK v1186 (
    s13M0 x1 x2 r1185.1 x0 v1186 r1185.2
  ) (
    (Qbin Tryd.prog .eql 23 x0 (Value.int .i64 3)).bind fun v1187 =>
    s13M0 x1 x2 r1185.1 x0 v1187 r1185.2
  )
theorem s13J0eq (w : World) : s13J0 [aA,aB,aC,aD,aE,aF,aG,aH,aI,aJ,aK,aL,aM,aN,aO,aP,aQ,aR,aS,aT,aU,aV,aW,aX,aY,aZ,bA,bB,bC,bD,bE,bF,bG,bH,bI,bJ,bK,bL,bM,bN,bO,bP,bQ,bR] [] w = s13M0 aB aC aH aL aM w := (show _ = evK Tryd.prog 13 none (nav [1, 1, 0, 1, 0, 1] (bodyOf Tryd.f13)) none _ ⟨[aA,aB,aC,aD,aE,aF,aG,aH,aI,aJ,aK,aL,aM,aN,aO,aP,aQ,aR,aS,aT,aU,aV,aW,aX,aY,aZ,bA,bB,bC,bD,bE,bF,bG,bH,bI,bJ,bK,bL,bM,bN,bO,bP,bQ,bR].toArray, []⟩ w s13K1 from by kernel_rfl).trans (by kernel_rfl)
theorem s13J0of {w : World} {r : _} (h : s13M0 aB aC aH aL aM w = some r) : s13J0 [aA,aB,aC,aD,aE,aF,aG,aH,aI,aJ,aK,aL,aM,aN,aO,aP,aQ,aR,aS,aT,aU,aV,aW,aX,aY,aZ,bA,bB,bC,bD,bE,bF,bG,bH,bI,bJ,bK,bL,bM,bN,bO,bP,bQ,bR] [] w = some r :=
  ((s13J0eq w).trans h)
theorem s13eq (x0 x1 x2 : Value) (w : World) : evK Tryd.prog 13 none (bodyOf Tryd.f13) none _ { tmps := (([x0, x1, x2] : List Value) ++ List.replicate (44 - 3) undef).toArray, defers := [] } w (leaveK Tryd.prog Tryd.f13) = s13raw x0 x1 x2 w := by kernel_rfl
theorem c13 {x0 x1 x2 : Value} {w : World} {r : Value × World} (h : s13 x0 x1 x2 w = some r) : C Tryd.prog 13 #[x0, x1, x2] w = some r :=
  C_ev follows_all drawLaw (by kernel_rfl) Tryd.func13 (by rfl) ((s13eq x0 x1 x2 w).trans (show s13raw x0 x1 x2 w = some r from (Ev.bind_mono fun (_ : Value) => (Ev.bind_mono fun (_ : Value × World) => (Ev.bind_mono fun (_ : Value) => (condK_mono (s13J0of) (Ev.bind_mono fun (_ : Value) => (s13J0of)))))) h))
theorem e13 {x0 x1 x2 : Value} {w : World} {Q : Value × World → Prop} (h : Brings (s13 x0 x1 x2 w) Q) : Brings (Xcall Tryd.prog (Value.func (Fn.func 13) #[] #[]) #[x0, x1, x2] w) Q :=
  h.call (Xcall_fn Tryd.func13 (by decide +kernel) (by rfl) _ _ _ w) fun _ h => c13 h

/-! lychgate/ftp.Replace -/
noncomputable def s14 (x0 x1 x2 : Value) (w : World) : Option (Value × World) :=
  (Xbox Tryd.prog 27 x1 w).bind fun r1209 =>
  (QfieldAddr Tryd.prog 27 r1209.1 1).bind fun v1210 =>
  (Qload Tryd.prog 3 v1210 r1209.2).bind fun v1211 =>
  (Qbin Tryd.prog .lss 3 v1211 (Value.int .i64 0)).bind fun v1212 =>
  (guardQ v1212 false (QfieldAddr Tryd.prog 27 r1209.1 1)).bind fun v1213 =>
  (guardQ v1212 false (Qload Tryd.prog 3 v1213 r1209.2)).bind fun v1214 =>
  (guardQ v1212 false (QfieldAddr Tryd.prog 27 r1209.1 2)).bind fun v1215 =>
  (guardQ v1212 false (Qload Tryd.prog 3 v1215 r1209.2)).bind fun v1216 =>
  (guardQ v1212 false (Qbin Tryd.prog .gtr 3 v1214 v1216)).bind fun v1217 =>
  (Qpick v1212 (Value.bool true) v1217).bind fun v1218 =>
  (guardQ v1218 false (QfieldAddr Tryd.prog 27 r1209.1 2)).bind fun v1219 =>
  (guardQ v1218 false (Qload Tryd.prog 3 v1219 r1209.2)).bind fun v1220 =>
  (guardQ v1218 false (Qlen Tryd.prog #[22] 3 #[(gv (isB v1218 false) x0)] r1209.2)).bind fun v1221 =>
  (guardQ v1218 false (Qbin Tryd.prog .gtr 3 v1220 v1221)).bind fun v1222 =>
  (Qpick v1218 (Value.bool true) v1222).bind fun v1223 =>
  condK v1223 (
    (Xcall Tryd.prog (Value.func (Fn.func 35) #[] #[]) #[x0] r1209.2).bind fun r1224 =>
    some (r1224.1, r1224.2)
  ) (
    (QfieldAddr Tryd.prog 27 r1209.1 1).bind fun v1225 =>
    (Qload Tryd.prog 3 v1225 r1209.2.drew).bind fun v1226 =>
    (Qslice Tryd.prog 22 x0 none (some v1226) none r1209.2.drew).bind fun v1227 =>
    (QfieldAddr Tryd.prog 27 r1209.1 2).bind fun v1228 =>
    (Qload Tryd.prog 3 v1228 r1209.2.drew).bind fun v1229 =>
    (Qslice Tryd.prog 22 x0 (some v1229) none none r1209.2.drew).bind fun v1230 =>
    (XbuildSlice Tryd.prog 104 3 #[(0, v1227), (1, x2), (2, v1230)] r1209.2.drew).bind fun r1231 =>
    (Xcall Tryd.prog (Value.func (Fn.func 36) #[] #[]) #[r1231.1] r1231.2).bind fun r1232 =>
    chkK True (
      some (r1232.1, r1232.2)
    )
  )
theorem s14eq (x0 x1 x2 : Value) (w : World) : evK Tryd.prog 14 none (bodyOf Tryd.f14) none _ { tmps := (([x0, x1, x2] : List Value) ++ List.replicate (37 - 3) undef).toArray, defers := [] } w (leaveK Tryd.prog Tryd.f14) = s14 x0 x1 x2 w := by kernel_rfl
theorem c14 {x0 x1 x2 : Value} {w : World} {r : Value × World} (h : s14 x0 x1 x2 w = some r) : C Tryd.prog 14 #[x0, x1, x2] w = some r :=
  C_ev follows_all drawLaw (by kernel_rfl) Tryd.func14 (by rfl) ((s14eq x0 x1 x2 w).trans h)
theorem e14 {x0 x1 x2 : Value} {w : World} {Q : Value × World → Prop} (h : Brings (s14 x0 x1 x2 w) Q) : Brings (Xcall Tryd.prog (Value.func (Fn.func 14) #[] #[]) #[x0, x1, x2] w) Q :=
  h.call (Xcall_fn Tryd.func14 (by decide +kernel) (by rfl) _ _ _ w) fun _ h => c14 h

end Go.Proofs.YtphokckbcmiddaaDoor
