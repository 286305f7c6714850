/- The functions of the program, by their texts. -/
import Derived.Test.YtphokckbcmiddaaDoorMFw
namespace Go.Proofs.YtphokckbcmiddaaDoor
open Go Go.Ev
open Go.Proofs
/-! lychgate/lychgateref13.Replace -/
noncomputable def s15 (x0 x1 x2 : Value) (w : World) : Option (Value × World) :=
  (Xbox Tryd.prog 31 x1 w).bind fun r1 =>
  (QfieldAddr Tryd.prog 31 r1.1 1).bind fun v2 =>
  (Qload Tryd.prog 3 v2 r1.2).bind fun v3 =>
  (Qbin Tryd.prog .lss 3 v3 (Value.int .i64 0)).bind fun v4 =>
  (guardQ v4 false (QfieldAddr Tryd.prog 31 r1.1 1)).bind fun v5 =>
  (guardQ v4 false (Qload Tryd.prog 3 v5 r1.2)).bind fun v6 =>
  (guardQ v4 false (QfieldAddr Tryd.prog 31 r1.1 2)).bind fun v7 =>
  (guardQ v4 false (Qload Tryd.prog 3 v7 r1.2)).bind fun v8 =>
  (guardQ v4 false (Qbin Tryd.prog .gtr 3 v6 v8)).bind fun v9 =>
  (Qpick v4 (Value.bool true) v9).bind fun v10 =>
  (guardQ v10 false (QfieldAddr Tryd.prog 31 r1.1 2)).bind fun v11 =>
  (guardQ v10 false (Qload Tryd.prog 3 v11 r1.2)).bind fun v12 =>
  (guardQ v10 false (Qlen Tryd.prog #[22] 3 #[(gv (isB v10 false) x0)] r1.2)).bind fun v13 =>
  (guardQ v10 false (Qbin Tryd.prog .gtr 3 v12 v13)).bind fun v14 =>
  (Qpick v10 (Value.bool true) v14).bind fun v15 =>
  condK v15 (
    (Xbi Tryd.prog Go.Builtin.append #[22, 22] 22 #[(Value.slice none 0 0), x0] r1.2).bind fun r16 =>
    some (r16.1, r16.2)
  ) (
    (QfieldAddr Tryd.prog 31 r1.1 1).bind fun v17 =>
    (Qload Tryd.prog 3 v17 r1.2).bind fun v18 =>
    (Qslice Tryd.prog 22 x0 none (some v18) none r1.2).bind fun v19 =>
    (Xbi Tryd.prog Go.Builtin.append #[22, 22] 22 #[(Value.slice none 0 0), v19] r1.2).bind fun r20 =>
    (Xbi Tryd.prog Go.Builtin.append #[22, 22] 22 #[r20.1, x2] r20.2).bind fun r21 =>
    (QfieldAddr Tryd.prog 31 r1.1 2).bind fun v22 =>
    (Qload Tryd.prog 3 v22 r21.2).bind fun v23 =>
    (Qslice Tryd.prog 22 x0 (some v23) none none r21.2).bind fun v24 =>
    (Xbi Tryd.prog Go.Builtin.append #[22, 22] 22 #[r21.1, v24] r21.2).bind fun r25 =>
    some (r25.1, r25.2)
  )
theorem s15eq (x0 x1 x2 : Value) (w : World) : evK Tryd.prog 15 none (bodyOf Tryd.f15) none _ { tmps := (([x0, x1, x2] : List Value) ++ List.replicate (42 - 3) undef).toArray, defers := [] } w (leaveK Tryd.prog Tryd.f15) = s15 x0 x1 x2 w := by kernel_rfl
theorem c15 {x0 x1 x2 : Value} {w : World} {r : Value × World} (h : s15 x0 x1 x2 w = some r) : C Tryd.prog 15 #[x0, x1, x2] w = some r :=
  C_ev follows_all drawLaw (by kernel_rfl) Tryd.func15 (by rfl) ((s15eq x0 x1 x2 w).trans h)
theorem e15 {x0 x1 x2 : Value} {w : World} {Q : Value × World → Prop} (h : Brings (s15 x0 x1 x2 w) Q) : Brings (Xcall Tryd.prog (Value.func (Fn.func 15) #[] #[]) #[x0, x1, x2] w) Q :=
  h.call (Xcall_fn Tryd.func15 (by decide +kernel) (by rfl) _ _ _ w) fun _ h => c15 h

/-! lychgate/lychgatelaw13.FtpReplaces -/
noncomputable def s6K0 : Exit → Act → World → Option (Value × World) := seqK (fun a w => evK Tryd.prog 6 none (nav [1, 1, 1] (bodyOf Tryd.f6)) none _ a w (leaveK Tryd.prog Tryd.f6)) (leaveK Tryd.prog Tryd.f6)
noncomputable def s6J0 (s : List Value) (d : List Deferred) (w : World) : Option (Value × World) := s6K0 .normal ⟨s.toArray, d⟩ w
noncomputable def s6M0 (s6 : Value) (w : World) : Option (Value × World) :=
  some (s6, w)
noncomputable def s6raw (x0 x1 x2 : Value) (w : World) : Option (Value × World) :=
  (Xbox Tryd.prog 27 x1 w).bind fun r26 =>
  (QfieldAddr Tryd.prog 27 r26.1 0).bind fun v27 =>
  (Qload Tryd.prog 23 v27 r26.2).bind fun v28 =>
  (QfieldAddr Tryd.prog 27 r26.1 1).bind fun v29 =>
  (Qload Tryd.prog 3 v29 r26.2).bind fun v30 =>
  (QfieldAddr Tryd.prog 27 r26.1 2).bind fun v31 =>
  (Qload Tryd.prog 3 v31 r26.2).bind fun v32 =>
  (Qbuild Tryd.prog 31 #[(0, v28), (1, v30), (2, v32)] r26.2).bind fun v33 =>
  (Xalloc Tryd.prog 31 r26.2).bind fun r34 =>
  (Xstore Tryd.prog 31 r34.1 v33 r34.2).bind fun r35 =>
  evDraw Tryd.prog 6 2 (opsOf (nav [1, 1, 0] (bodyOf Tryd.f6))) ⟨[x0, x1, x2, undef, r26.1, undef, (Value.bool false), r34.1, v27, v28, v29, v30, v31, v32, v33, undef, undef, undef, undef, undef, undef, undef, undef, undef, undef, undef, undef, undef, undef].toArray, []⟩ r35.2 (fun a w => s6K0 .normal a w)
noncomputable def s6 (x0 x1 x2 : Value) (w : World) : Option (Value × World) :=
  (Xbox Tryd.prog 27 x1 w).bind fun r26 =>
  (QfieldAddr Tryd.prog 27 r26.1 0).bind fun v27 =>
  (Qload Tryd.prog 23 v27 r26.2).bind fun v28 =>
  (QfieldAddr Tryd.prog 27 r26.1 1).bind fun v29 =>
  (Qload Tryd.prog 3 v29 r26.2).bind fun v30 =>
  (QfieldAddr Tryd.prog 27 r26.1 2).bind fun v31 =>
  (Qload Tryd.prog 3 v31 r26.2).bind fun v32 =>
  (Qbuild Tryd.prog 31 #[(0, v28), (1, v30), (2, v32)] r26.2).bind fun v33 =>
  (Xalloc Tryd.prog 31 r26.2).bind fun r34 =>
  (Xstore Tryd.prog 31 r34.1 v33 r34.2).bind fun r35 =>
  (evIdx Tryd.prog (opsOf (nav [1, 1, 0] (bodyOf Tryd.f6))) (Region.linearise .any (opsOf (nav [1, 1, 0] (bodyOf Tryd.f6))) (r35.2.tape r35.2.drawn (.order 6 2))) ⟨[x0, x1, x2, undef, r26.1, undef, (Value.bool false), r34.1, v27, v28, v29, v30, v31, v32, v33, undef, undef, undef, undef, undef, undef, undef, undef, undef, undef, undef, undef, undef, undef].toArray, []⟩ r35.2.drew).bind fun x => s6M0 (x.1.tmps.getD 6 undef) x.2
theorem s6J0eq {aA aB aC aD aE aF aG aH aI aJ aK aL aM aN aO aP aQ aR aS aT aU aV aW aX aY aZ bA bB bC : Value} (w : World) : s6J0 [aA,aB,aC,aD,aE,aF,aG,aH,aI,aJ,aK,aL,aM,aN,aO,aP,aQ,aR,aS,aT,aU,aV,aW,aX,aY,aZ,bA,bB,bC] [] w = s6M0 aG w := (show _ = evK Tryd.prog 6 none (nav [1, 1, 1] (bodyOf Tryd.f6)) none _ ⟨[aA,aB,aC,aD,aE,aF,aG,aH,aI,aJ,aK,aL,aM,aN,aO,aP,aQ,aR,aS,aT,aU,aV,aW,aX,aY,aZ,bA,bB,bC].toArray, []⟩ w (leaveK Tryd.prog Tryd.f6) from by kernel_rfl).trans (by kernel_rfl)
theorem s6J0of {aA aB aC aD aE aF aG aH aI aJ aK aL aM aN aO aP aQ aR aS aT aU aV aW aX aY aZ bA bB bC : Value} {w : World} {r : _} (h : s6M0 aG w = some r) : s6J0 [aA,aB,aC,aD,aE,aF,aG,aH,aI,aJ,aK,aL,aM,aN,aO,aP,aQ,aR,aS,aT,aU,aV,aW,aX,aY,aZ,bA,bB,bC] [] w = some r :=
  ((s6J0eq w).trans h)
theorem s6J0fr (g : Nat → Value) (w : World) : s6K0 .normal (frm 29 g []) w = s6J0 [g 0, g 1, g 2, g 3, g 4, g 5, g 6, g 7, g 8, g 9, g 10, g 11, g 12, g 13, g 14, g 15, g 16, g 17, g 18, g 19, g 20, g 21, g 22, g 23, g 24, g 25, g 26, g 27, g 28] [] w := by kernel_rfl
theorem s6eq (x0 x1 x2 : Value) (w : World) : evK Tryd.prog 6 none (bodyOf Tryd.f6) none _ { tmps := (([x0, x1, x2] : List Value) ++ List.replicate (29 - 3) undef).toArray, defers := [] } w (leaveK Tryd.prog Tryd.f6) = s6raw x0 x1 x2 w := by kernel_rfl
theorem c6 {x0 x1 x2 : Value} {w : World} {r : Value × World} (h : s6 x0 x1 x2 w = some r) : C Tryd.prog 6 #[x0, x1, x2] w = some r :=
  C_ev follows_all drawLaw (by kernel_rfl) Tryd.func6 (by rfl) ((s6eq x0 x1 x2 w).trans (show s6raw x0 x1 x2 w = some r from (Ev.bind_mono fun (_ : Value × World) => (Ev.bind_mono fun (_ : Value) => (Ev.bind_mono fun (_ : Value) => (Ev.bind_mono fun (_ : Value) => (Ev.bind_mono fun (_ : Value) => (Ev.bind_mono fun (_ : Value) => (Ev.bind_mono fun (_ : Value) => (Ev.bind_mono fun (_ : Value) => (Ev.bind_mono fun (_ : Value × World) => (Ev.bind_mono fun (_ : Value × World) => (evDraw_tape (n := 29) (M := fun g w => s6M0 (g 6) w) (by kernel_rfl) (by rfl) rfl (fun g w y h => (s6J0fr g w).trans (s6J0of h))))))))))))) h))
theorem e6 {x0 x1 x2 : Value} {w : World} {Q : Value × World → Prop} (h : Brings (s6 x0 x1 x2 w) Q) : Brings (Xcall Tryd.prog (Value.func (Fn.func 6) #[] #[]) #[x0, x1, x2] w) Q :=
  h.call (Xcall_fn Tryd.func6 (by decide +kernel) (by rfl) _ _ _ w) fun _ h => c6 h

end Go.Proofs.YtphokckbcmiddaaDoor
