/- The functions of the program, by their texts. -/
import Derived.Test.YtphokckbcmiddaaDoorMFw
namespace Go.Proofs.YtphokckbcmiddaaDoor
open Go Go.Ev
open Go.Proofs
/-! lychgate/lychgateref13.line -/
noncomputable def s26K0 : Exit → Act → World → Option (Value × World) := seqK (fun a w => evK Tryd.prog 26 none (nav [1, 1, 1, 1] (bodyOf Tryd.f26)) none _ a w (leaveK Tryd.prog Tryd.f26)) (leaveK Tryd.prog Tryd.f26)
noncomputable def s26K1 : Exit → Act → World → Option (Value × World) := blockK 0 s26K0
noncomputable def s26L0 (s : List Value) (d : List Deferred) (w : World) : Option (Value × World) := loopN Tryd.prog 26 none (nav [1, 1, 1, 0, 1, 0, 0] (bodyOf Tryd.f26)) s26K1 s d w
noncomputable def s26B0 : List Value → World → Option (Exit × List Value × World)
  | [x0, x2, x3, x4], w =>
    (Qbin Tryd.prog .sub 3 x3 (Value.int .i64 2)).bind fun v15 =>
    (Qbin Tryd.prog .lss 3 x4 v15).bind fun v16 =>
    condK v16 (
      (QindexAddr Tryd.prog 22 x0 x4 w).bind fun v17 =>
      (Qload Tryd.prog 5 v17 w).bind fun v18 =>
      (Qbin Tryd.prog .eql 5 v18 (Value.int .u8 13)).bind fun v19 =>
      (guardQ v19 false (QindexAddr Tryd.prog 22 (gv (isB v19 false) x0) (gv (isB v19 false) x4) w)).bind fun v20 =>
      (guardQ v19 false (Qload Tryd.prog 5 v20 w)).bind fun v21 =>
      (guardQ v19 false (Qbin Tryd.prog .eql 5 v21 (Value.int .u8 10))).bind fun v22 =>
      (Qpick v19 (Value.bool true) v22).bind fun v23 =>
      condK v23 (
        some (Exit.ret, [x0, (Value.bool false), x3, x4], w)
      ) (
        (Qbin Tryd.prog .add 3 x4 (Value.int .i64 1)).bind fun v24 =>
        some (Exit.normal, [x0, x2, x3, v24], w)
      )
    ) (
      some ((Exit.exit 0), [x0, x2, x3, x4], w)
    )
  | _, _ => none
noncomputable def s26R0 : Exit → List Value → World → Option (Value × World)
  | (Exit.exit 0), [_, _, _, _], w =>
    some ((Value.bool true), w)
  | Exit.ret, [_, x2, _, _], w =>
    some (x2, w)
  | _, _, _ => none
noncomputable def s26raw (x0 : Value) (w : World) : Option (Value × World) :=
  (Qlen Tryd.prog #[22] 3 #[x0] w).bind fun v1 =>
  (Qbin Tryd.prog .lss 3 v1 (Value.int .i64 2)).bind fun v2 =>
  (guardQ v2 false (Qbin Tryd.prog .gtr 3 (gv (isB v2 false) v1) (Value.int .i64 128))).bind fun v3 =>
  (Qpick v2 (Value.bool true) v3).bind fun v4 =>
  (guardQ v4 false (Qbin Tryd.prog .sub 3 (gv (isB v4 false) v1) (Value.int .i64 2))).bind fun v5 =>
  (guardQ v4 false (QindexAddr Tryd.prog 22 (gv (isB v4 false) x0) v5 w)).bind fun v6 =>
  (guardQ v4 false (Qload Tryd.prog 5 v6 w)).bind fun v7 =>
  (guardQ v4 false (Qbin Tryd.prog .neq 5 v7 (Value.int .u8 13))).bind fun v8 =>
  (Qpick v4 (Value.bool true) v8).bind fun v9 =>
  (guardQ v9 false (Qbin Tryd.prog .sub 3 (gv (isB v9 false) v1) (Value.int .i64 1))).bind fun v10 =>
  (guardQ v9 false (QindexAddr Tryd.prog 22 (gv (isB v9 false) x0) v10 w)).bind fun v11 =>
  (guardQ v9 false (Qload Tryd.prog 5 v11 w)).bind fun v12 =>
  (guardQ v9 false (Qbin Tryd.prog .neq 5 v12 (Value.int .u8 10))).bind fun v13 =>
  (Qpick v9 (Value.bool true) v13).bind fun v14 =>
  condK v14 (
    some ((Value.bool false), w)
  ) (
    s26L0 [x0, undef, (Value.bool false), v1, (Value.int .i64 0), x0, v1, v1, v2, v2, (gv (isB v2 false) v1), v3, v4, v4, (gv (isB v4 false) x0), (gv (isB v4 false) v1), v5, v6, v7, v8, v9, v9, (gv (isB v9 false) x0), (gv (isB v9 false) v1), v10, v11, v12, v13, v14, undef, undef, undef, undef, undef, undef, undef, undef, undef, undef, undef, undef, undef, undef, undef, undef, undef, undef] [] w
  )
noncomputable def s26 (x0 : Value) (w : World) : Option (Value × World) :=
  (Qlen Tryd.prog #[22] 3 #[x0] w).bind fun v1 =>
  (Qbin Tryd.prog .lss 3 v1 (Value.int .i64 2)).bind fun v2 =>
  (guardQ v2 false (Qbin Tryd.prog .gtr 3 (gv (isB v2 false) v1) (Value.int .i64 128))).bind fun v3 =>
  (Qpick v2 (Value.bool true) v3).bind fun v4 =>
  (guardQ v4 false (Qbin Tryd.prog .sub 3 (gv (isB v4 false) v1) (Value.int .i64 2))).bind fun v5 =>
  (guardQ v4 false (QindexAddr Tryd.prog 22 (gv (isB v4 false) x0) v5 w)).bind fun v6 =>
  (guardQ v4 false (Qload Tryd.prog 5 v6 w)).bind fun v7 =>
  (guardQ v4 false (Qbin Tryd.prog .neq 5 v7 (Value.int .u8 13))).bind fun v8 =>
  (Qpick v4 (Value.bool true) v8).bind fun v9 =>
  (guardQ v9 false (Qbin Tryd.prog .sub 3 (gv (isB v9 false) v1) (Value.int .i64 1))).bind fun v10 =>
  (guardQ v9 false (QindexAddr Tryd.prog 22 (gv (isB v9 false) x0) v10 w)).bind fun v11 =>
  (guardQ v9 false (Qload Tryd.prog 5 v11 w)).bind fun v12 =>
  (guardQ v9 false (Qbin Tryd.prog .neq 5 v12 (Value.int .u8 10))).bind fun v13 =>
  (Qpick v9 (Value.bool true) v13).bind fun v14 =>
  condK v14 (
    some ((Value.bool false), w)
  ) (
    loopR s26B0 s26R0 [x0, (Value.bool false), v1, (Value.int .i64 0)] w
  )
theorem s26B0eq (x0 x2 x3 x4 : Value) (w : World) (g : Nat → Value) (d : List Deferred) : evK Tryd.prog 26 none (nav [1, 1, 1, 0, 1, 0, 0] (bodyOf Tryd.f26)) none _ (frm 47 (setL [0, 2, 3, 4] [x0, x2, x3, x4] g) d) w (projK [0, 2, 3, 4]) = s26B0 [x0, x2, x3, x4] w := by kernel_rfl
theorem s26R0x0eq (x0 x2 x3 x4 : Value) (g : Nat → Value) (w : World) : s26K1 (Exit.exit 0) (frm 47 (setL [0, 2, 3, 4] [x0, x2, x3, x4] g) []) w = s26R0 (Exit.exit 0) [x0, x2, x3, x4] w := by kernel_rfl
theorem s26R0ret_eq (x0 x2 x3 x4 : Value) (g : Nat → Value) (w : World) : s26K1 Exit.ret (frm 47 (setL [0, 2, 3, 4] [x0, x2, x3, x4] g) []) w = s26R0 Exit.ret [x0, x2, x3, x4] w := by kernel_rfl
theorem s26R0of : ∀ (e : Exit) (xs : List Value) (w : World) (g : Nat → Value) (y : _), s26R0 e xs w = some y → s26K1 e (frm 47 (setL [0, 2, 3, 4] xs g) []) w = some y := by
  intro e xs w g y h
  unfold s26R0 at h
  split at h
  · exact (s26R0x0eq _ _ _ _ g _).trans h
  · exact (s26R0ret_eq _ _ _ _ g _).trans h
  · cases h
set_option maxRecDepth 20000 in
theorem s26L0of {aA aB aC aD aE aF aG aH aI aJ aK aL aM aN aO aP aQ aR aS aT aU aV aW aX aY aZ bA bB bC bD bE bF bG bH bI bJ bK bL bM bN bO bP bQ bR bS bT bU : Value} {w : World} {r : _} (h : loopR s26B0 s26R0 [aA,aC,aD,aE] w = some r) : s26L0 [aA,aB,aC,aD,aE,aF,aG,aH,aI,aJ,aK,aL,aM,aN,aO,aP,aQ,aR,aS,aT,aU,aV,aW,aX,aY,aZ,bA,bB,bC,bD,bE,bF,bG,bH,bI,bJ,bK,bL,bM,bN,bO,bP,bQ,bR,bS,bT,bU] [] w = some r :=
  loopN_of (B := s26B0) (R := s26R0) (n := 47) (live := [0, 2, 3, 4]) (fun xs w g y hl h => match xs, hl, h with | [x0, x2, x3, x4], _, h => (s26B0eq x0 x2 x3 x4 w g []).trans h) (by kernel_rfl) (s26R0of) (fun i => ([aA,aB,aC,aD,aE,aF,aG,aH,aI,aJ,aK,aL,aM,aN,aO,aP,aQ,aR,aS,aT,aU,aV,aW,aX,aY,aZ,bA,bB,bC,bD,bE,bF,bG,bH,bI,bJ,bK,bL,bM,bN,bO,bP,bQ,bR,bS,bT,bU] : List Value).getD i undef) (by kernel_rfl) rfl h
theorem s26eq (x0 : Value) (w : World) : evK Tryd.prog 26 none (bodyOf Tryd.f26) none _ { tmps := (([x0] : List Value) ++ List.replicate (47 - 1) undef).toArray, defers := [] } w (leaveK Tryd.prog Tryd.f26) = s26raw x0 w := by kernel_rfl
theorem c26 {x0 : Value} {w : World} {r : Value × World} (h : s26 x0 w = some r) : C Tryd.prog 26 #[x0] w = some r :=
  C_ev follows_all drawLaw (by kernel_rfl) Tryd.func26 (by rfl) ((s26eq x0 w).trans (show s26raw x0 w = some r from (Ev.bind_mono fun (_ : Value) => (Ev.bind_mono fun (_ : Value) => (Ev.bind_mono fun (_ : Value) => (Ev.bind_mono fun (_ : Value) => (Ev.bind_mono fun (_ : Value) => (Ev.bind_mono fun (_ : Value) => (Ev.bind_mono fun (_ : Value) => (Ev.bind_mono fun (_ : Value) => (Ev.bind_mono fun (_ : Value) => (Ev.bind_mono fun (_ : Value) => (Ev.bind_mono fun (_ : Value) => (Ev.bind_mono fun (_ : Value) => (Ev.bind_mono fun (_ : Value) => (Ev.bind_mono fun (_ : Value) => (condK_mono id (s26L0of)))))))))))))))) h))
theorem e26 {x0 : Value} {w : World} {Q : Value × World → Prop} (h : Brings (s26 x0 w) Q) : Brings (Xcall Tryd.prog (Value.func (Fn.func 26) #[] #[]) #[x0] w) Q :=
  h.call (Xcall_fn Tryd.func26 (by decide +kernel) (by rfl) _ _ _ w) fun _ h => c26 h

/-! lychgate/lychgateref13.has -/
noncomputable def s27K0 : Exit → Act → World → Option (Value × World) := seqK (fun a w => evK Tryd.prog 27 none (nav [1, 1] (bodyOf Tryd.f27)) none _ a w (leaveK Tryd.prog Tryd.f27)) (leaveK Tryd.prog Tryd.f27)
noncomputable def s27K1 : Exit → Act → World → Option (Value × World) := blockK 0 s27K0
noncomputable def s27L0 (s : List Value) (d : List Deferred) (w : World) : Option (Value × World) := loopN Tryd.prog 27 none (nav [1, 0, 1, 0, 0] (bodyOf Tryd.f27)) s27K1 s d w
noncomputable def s27K2 : Exit → Act → World → Option (Exit × List Value × World) := seqK (fun a w => evK Tryd.prog 27 none (nav [1, 0, 1, 0, 0, 1, 1] (bodyOf Tryd.f27)) none _ a w (projK [0, 1, 2, 6, 7])) (projK [0, 1, 2, 6, 7])
noncomputable def s27K3 : Exit → Act → World → Option (Exit × List Value × World) := blockK 1 s27K2
noncomputable def s27K4 : Exit → Act → World → Option (Exit × List Value × World) := seqK (fun a w => evK Tryd.prog 27 none (nav [1, 0, 1, 0, 0, 1, 0, 0, 1, 1, 1] (bodyOf Tryd.f27)) none _ a w s27K3) s27K3
noncomputable def s27J1 (s : List Value) (d : List Deferred) (w : World) : Option (Exit × List Value × World) := s27K4 .normal ⟨s.toArray, d⟩ w
noncomputable def s27M1 (s0 s1 s2 s6 s7 s8 : Value) (w : World) : Option (Exit × List Value × World) :=
  (Qindex Tryd.prog 9 s2 s7 w).bind fun v37 =>
  (Qbin Tryd.prog .neq 5 s8 v37).bind fun v38 =>
  condK v38 (
    some (Exit.ret, [s0, s1, s2, (Value.bool false), s7], w)
  ) (
    (Qbin Tryd.prog .add 3 s7 (Value.int .i64 1)).bind fun v39 =>
    some (Exit.normal, [s0, s1, s2, s6, v39], w)
  )
noncomputable def s27B0raw (g : Nat → Value) (d : List Deferred) : List Value → World → Option (Exit × List Value × World)
  | [x0, x1, x2, x6, x7], w =>
    (Qlen Tryd.prog #[9] 3 #[x2] w).bind fun v25 =>
    (Qbin Tryd.prog .lss 3 x7 v25).bind fun v26 =>
    condK v26 (
      (Qbin Tryd.prog .add 3 x1 x7).bind fun v27 =>
      (Qlen Tryd.prog #[22] 3 #[x0] w).bind fun v28 =>
      (Qbin Tryd.prog .geq 3 v27 v28).bind fun v29 =>
      condK v29 (
        some (Exit.ret, [x0, x1, x2, (Value.bool false), x7], w)
      ) (
        (Qbin Tryd.prog .add 3 x1 x7).bind fun v30 =>
        (QindexAddr Tryd.prog 22 x0 v30 w).bind fun v31 =>
        (Qload Tryd.prog 5 v31 w).bind fun v32 =>
        (Qbin Tryd.prog .geq 5 v32 (Value.int .u8 97)).bind fun v33 =>
        (guardQ v33 true (Qbin Tryd.prog .leq 5 (gv (isB v33 true) v32) (Value.int .u8 122))).bind fun v34 =>
        (Qpick v33 v34 (Value.bool false)).bind fun v35 =>
        condK v35 (
          (Qbin Tryd.prog .sub 5 v32 (Value.int .u8 32)).bind fun v36 =>
          s27J1 [x0, x1, x2, g 3,g 4,g 5, x6, x7, v36, x7, x2, v25, v26, g 13,g 14, x1, x7, v27, x0, v28, v29, x0, x1, x7, v30, v31, v32, v32, v33, v33, (gv (isB v33 true) v32), v34, v35, v32, v36, g 35,g 36,g 37,g 38,g 39] d w
        ) (
          s27J1 [x0, x1, x2, g 3,g 4,g 5, x6, x7, v32, x7, x2, v25, v26, g 13,g 14, x1, x7, v27, x0, v28, v29, x0, x1, x7, v30, v31, v32, v32, v33, v33, (gv (isB v33 true) v32), v34, v35, g 33,g 34,g 35,g 36,g 37,g 38,g 39] d w
        )
      )
    ) (
      some ((Exit.exit 0), [x0, x1, x2, x6, x7], w)
    )
  | _, _ => none
noncomputable def s27B0 : List Value → World → Option (Exit × List Value × World)
  | [x0, x1, x2, x6, x7], w =>
    (Qlen Tryd.prog #[9] 3 #[x2] w).bind fun v25 =>
    (Qbin Tryd.prog .lss 3 x7 v25).bind fun v26 =>
    condK v26 (
      (Qbin Tryd.prog .add 3 x1 x7).bind fun v27 =>
      (Qlen Tryd.prog #[22] 3 #[x0] w).bind fun v28 =>
      (Qbin Tryd.prog .geq 3 v27 v28).bind fun v29 =>
      condK v29 (
        some (Exit.ret, [x0, x1, x2, (Value.bool false), x7], w)
      ) (
        (Qbin Tryd.prog .add 3 x1 x7).bind fun v30 =>
        (QindexAddr Tryd.prog 22 x0 v30 w).bind fun v31 =>
        (Qload Tryd.prog 5 v31 w).bind fun v32 =>
        (Qbin Tryd.prog .geq 5 v32 (Value.int .u8 97)).bind fun v33 =>
        (guardQ v33 true (Qbin Tryd.prog .leq 5 (gv (isB v33 true) v32) (Value.int .u8 122))).bind fun v34 =>
        (Qpick v33 v34 (Value.bool false)).bind fun v35 =>
        condK v35 (
          (Qbin Tryd.prog .sub 5 v32 (Value.int .u8 32)).bind fun v36 =>
          s27M1 x0 x1 x2 x6 x7 v36 w
        ) (
          s27M1 x0 x1 x2 x6 x7 v32 w
        )
      )
    ) (
      some ((Exit.exit 0), [x0, x1, x2, x6, x7], w)
    )
  | _, _ => none
noncomputable def s27R0 : Exit → List Value → World → Option (Value × World)
  | (Exit.exit 0), [_, _, _, _, _], w =>
    some ((Value.bool true), w)
  | Exit.ret, [_, _, _, x6, _], w =>
    some (x6, w)
  | _, _, _ => none
noncomputable def s27raw (x0 x1 x2 : Value) (w : World) : Option (Value × World) :=
  s27L0 [x0, x1, x2, undef, undef, undef, (Value.bool false), (Value.int .i64 0), undef, undef, undef, undef, undef, undef, undef, undef, undef, undef, undef, undef, undef, undef, undef, undef, undef, undef, undef, undef, undef, undef, undef, undef, undef, undef, undef, undef, undef, undef, undef, undef] [] w
noncomputable def s27 (x0 x1 x2 : Value) (w : World) : Option (Value × World) :=
  loopR s27B0 s27R0 [x0, x1, x2, (Value.bool false), (Value.int .i64 0)] w
theorem s27J1eq {aA aB aC aD aE aF aG aH aI aJ aK aL aM aN aO aP aQ aR aS aT aU aV aW aX aY aZ bA bB bC bD bE bF bG bH bI bJ bK bL bM bN : Value} (w : World) : s27J1 [aA,aB,aC,aD,aE,aF,aG,aH,aI,aJ,aK,aL,aM,aN,aO,aP,aQ,aR,aS,aT,aU,aV,aW,aX,aY,aZ,bA,bB,bC,bD,bE,bF,bG,bH,bI,bJ,bK,bL,bM,bN] [] w = s27M1 aA aB aC aG aH aI w := (show _ = evK Tryd.prog 27 none (nav [1, 0, 1, 0, 0, 1, 0, 0, 1, 1, 1] (bodyOf Tryd.f27)) none _ ⟨[aA,aB,aC,aD,aE,aF,aG,aH,aI,aJ,aK,aL,aM,aN,aO,aP,aQ,aR,aS,aT,aU,aV,aW,aX,aY,aZ,bA,bB,bC,bD,bE,bF,bG,bH,bI,bJ,bK,bL,bM,bN].toArray, []⟩ w s27K3 from by kernel_rfl).trans (by kernel_rfl)
theorem s27J1of {aA aB aC aD aE aF aG aH aI aJ aK aL aM aN aO aP aQ aR aS aT aU aV aW aX aY aZ bA bB bC bD bE bF bG bH bI bJ bK bL bM bN : Value} {w : World} {r : _} (h : s27M1 aA aB aC aG aH aI w = some r) : s27J1 [aA,aB,aC,aD,aE,aF,aG,aH,aI,aJ,aK,aL,aM,aN,aO,aP,aQ,aR,aS,aT,aU,aV,aW,aX,aY,aZ,bA,bB,bC,bD,bE,bF,bG,bH,bI,bJ,bK,bL,bM,bN] [] w = some r :=
  ((s27J1eq w).trans h)
theorem s27B0eq (x0 x1 x2 x6 x7 : Value) (w : World) (g : Nat → Value) (d : List Deferred) : evK Tryd.prog 27 none (nav [1, 0, 1, 0, 0] (bodyOf Tryd.f27)) none _ (frm 40 (setL [0, 1, 2, 6, 7] [x0, x1, x2, x6, x7] g) d) w (projK [0, 1, 2, 6, 7]) = s27B0raw g d [x0, x1, x2, x6, x7] w := by kernel_rfl
theorem s27R0x0eq (x0 x1 x2 x6 x7 : Value) (g : Nat → Value) (w : World) : s27K1 (Exit.exit 0) (frm 40 (setL [0, 1, 2, 6, 7] [x0, x1, x2, x6, x7] g) []) w = s27R0 (Exit.exit 0) [x0, x1, x2, x6, x7] w := by kernel_rfl
theorem s27R0ret_eq (x0 x1 x2 x6 x7 : Value) (g : Nat → Value) (w : World) : s27K1 Exit.ret (frm 40 (setL [0, 1, 2, 6, 7] [x0, x1, x2, x6, x7] g) []) w = s27R0 Exit.ret [x0, x1, x2, x6, x7] w := by kernel_rfl
theorem s27R0of : ∀ (e : Exit) (xs : List Value) (w : World) (g : Nat → Value) (y : _), s27R0 e xs w = some y → s27K1 e (frm 40 (setL [0, 1, 2, 6, 7] xs g) []) w = some y := by
  intro e xs w g y h
  unfold s27R0 at h
  split at h
  · exact (s27R0x0eq _ _ _ _ _ g _).trans h
  · exact (s27R0ret_eq _ _ _ _ _ g _).trans h
  · cases h
set_option maxRecDepth 20000 in
theorem s27L0of {aA aB aC aD aE aF aG aH aI aJ aK aL aM aN aO aP aQ aR aS aT aU aV aW aX aY aZ bA bB bC bD bE bF bG bH bI bJ bK bL bM bN : Value} {w : World} {r : _} (h : loopR s27B0 s27R0 [aA,aB,aC,aG,aH] w = some r) : s27L0 [aA,aB,aC,aD,aE,aF,aG,aH,aI,aJ,aK,aL,aM,aN,aO,aP,aQ,aR,aS,aT,aU,aV,aW,aX,aY,aZ,bA,bB,bC,bD,bE,bF,bG,bH,bI,bJ,bK,bL,bM,bN] [] w = some r :=
  loopN_of (B := s27B0) (R := s27R0) (n := 40) (live := [0, 1, 2, 6, 7]) (fun xs w g y hl h => match xs, hl, h with | [x0, x1, x2, x6, x7], _, h => (s27B0eq x0 x1 x2 x6 x7 w g []).trans (show s27B0raw g [] [x0, x1, x2, x6, x7] w = some y from (Ev.bind_mono fun (_ : Value) => (Ev.bind_mono fun (_ : Value) => (condK_mono (Ev.bind_mono fun (_ : Value) => (Ev.bind_mono fun (_ : Value) => (Ev.bind_mono fun (_ : Value) => (condK_mono id (Ev.bind_mono fun (_ : Value) => (Ev.bind_mono fun (_ : Value) => (Ev.bind_mono fun (_ : Value) => (Ev.bind_mono fun (_ : Value) => (Ev.bind_mono fun (_ : Value) => (Ev.bind_mono fun (_ : Value) => (condK_mono (Ev.bind_mono fun (_ : Value) => (s27J1of)) (s27J1of)))))))))))) id))) h)) (by kernel_rfl) (s27R0of) (fun i => ([aA,aB,aC,aD,aE,aF,aG,aH,aI,aJ,aK,aL,aM,aN,aO,aP,aQ,aR,aS,aT,aU,aV,aW,aX,aY,aZ,bA,bB,bC,bD,bE,bF,bG,bH,bI,bJ,bK,bL,bM,bN] : List Value).getD i undef) (by kernel_rfl) rfl h
theorem s27eq (x0 x1 x2 : Value) (w : World) : evK Tryd.prog 27 none (bodyOf Tryd.f27) none _ { tmps := (([x0, x1, x2] : List Value) ++ List.replicate (40 - 3) undef).toArray, defers := [] } w (leaveK Tryd.prog Tryd.f27) = s27raw x0 x1 x2 w := by kernel_rfl
theorem c27 {x0 x1 x2 : Value} {w : World} {r : Value × World} (h : s27 x0 x1 x2 w = some r) : C Tryd.prog 27 #[x0, x1, x2] w = some r :=
  C_ev follows_all drawLaw (by kernel_rfl) Tryd.func27 (by rfl) ((s27eq x0 x1 x2 w).trans (show s27raw x0 x1 x2 w = some r from (s27L0of) h))
theorem e27 {x0 x1 x2 : Value} {w : World} {Q : Value × World → Prop} (h : Brings (s27 x0 x1 x2 w) Q) : Brings (Xcall Tryd.prog (Value.func (Fn.func 27) #[] #[]) #[x0, x1, x2] w) Q :=
  h.call (Xcall_fn Tryd.func27 (by decide +kernel) (by rfl) _ _ _ w) fun _ h => c27 h

/-! lychgate/lychgateref13.six -/
noncomputable def s28 (x0 x1 x2 : Value) (w : World) : Option (Value × World) :=
  (Xalloc Tryd.prog 31 w).bind fun r40 =>
  (Xcall Tryd.prog (Value.func (Fn.func 46) #[] #[]) #[x0, x1, (Value.int .i64 6), (Value.int .u8 44)] r40.2).bind fun r41 =>
  (Qext r41.1 0).bind fun v42 =>
  (Qext r41.1 1).bind fun v43 =>
  (Qext r41.1 2).bind fun v44 =>
  (Qun .not v44).bind fun v45 =>
  (guardQ v45 false (QindexAddr Tryd.prog 99 (gv (isB v45 false) v42) (Value.int .i64 4) r41.2)).bind fun v46 =>
  (guardQ v45 false (Qload Tryd.prog 3 v46 r41.2)).bind fun v47 =>
  (guardQ v45 false (Qbin Tryd.prog .eql 3 v47 (Value.int .i64 0))).bind fun v48 =>
  (guardQ (gv (isB v45 false) v48) true (QindexAddr Tryd.prog 99 (gv (isB (gv (isB v45 false) v48) true) v42) (Value.int .i64 5) r41.2)).bind fun v49 =>
  (guardQ (gv (isB v45 false) v48) true (Qload Tryd.prog 3 v49 r41.2)).bind fun v50 =>
  (guardQ (gv (isB v45 false) v48) true (Qbin Tryd.prog .eql 3 v50 (Value.int .i64 0))).bind fun v51 =>
  (guardQ v45 false (Qpick (gv (isB v45 false) v48) v51 (Value.bool false))).bind fun v52 =>
  (Qpick v45 (Value.bool true) v52).bind fun v53 =>
  condK v53 (
    (Qbuild Tryd.prog 31 #[] r41.2).bind fun v54 =>
    (Xstore Tryd.prog 31 r40.1 v54 r41.2).bind fun r55 =>
    ((((Qload Tryd.prog 31 r40.1 r55.2).bind fun v => ((((some [])).map fun vs => (Value.bool false) :: vs)).map fun vs => v :: vs)).map oneOf).map fun v => (v, r55.2)
  ) (
    (Xcall Tryd.prog (Value.func (Fn.func 47) #[] #[]) #[v42] r41.2.drew).bind fun r56 =>
    (QindexAddr Tryd.prog 99 v42 (Value.int .i64 4) r56.2).bind fun v57 =>
    (Qload Tryd.prog 3 v57 r56.2).bind fun v58 =>
    (Qbin Tryd.prog .mul 3 v58 (Value.int .i64 256)).bind fun v59 =>
    (QindexAddr Tryd.prog 99 v42 (Value.int .i64 5) r56.2).bind fun v60 =>
    (Qload Tryd.prog 3 v60 r56.2).bind fun v61 =>
    (Qbin Tryd.prog .add 3 v59 v61).bind fun v62 =>
    (Qconv Tryd.prog 3 25 v62).bind fun v63 =>
    (Qbuild Tryd.prog 31 #[(0, x2), (1, x1), (2, v43), (3, r56.1), (4, v63)] r56.2).bind fun v64 =>
    (Xstore Tryd.prog 31 r40.1 v64 r56.2).bind fun r65 =>
    chkK ((QindexAddr Tryd.prog 99 v42 (Value.int .i64 4) r41.2.drew = some v57 ∧ QindexAddr Tryd.prog 99 v42 (Value.int .i64 4) r56.2 = some v57) ∧ ((Qload Tryd.prog 3 v57 r41.2.drew = some v58 ∧ Qload Tryd.prog 3 v57 r56.2 = some v58) ∧ ((QindexAddr Tryd.prog 99 v42 (Value.int .i64 5) r41.2.drew = some v60 ∧ QindexAddr Tryd.prog 99 v42 (Value.int .i64 5) r56.2 = some v60) ∧ ((Qload Tryd.prog 3 v60 r41.2.drew = some v61 ∧ Qload Tryd.prog 3 v60 r56.2 = some v61) ∧ True)))) (
      ((((Qload Tryd.prog 31 r40.1 r65.2).bind fun v => ((((some [])).map fun vs => (Value.bool true) :: vs)).map fun vs => v :: vs)).map oneOf).map fun v => (v, r65.2)
    )
  )
theorem s28eq (x0 x1 x2 : Value) (w : World) : evK Tryd.prog 28 none (bodyOf Tryd.f28) none _ { tmps := (([x0, x1, x2] : List Value) ++ List.replicate (48 - 3) undef).toArray, defers := [] } w (leaveK Tryd.prog Tryd.f28) = s28 x0 x1 x2 w := by kernel_rfl
theorem c28 {x0 x1 x2 : Value} {w : World} {r : Value × World} (h : s28 x0 x1 x2 w = some r) : C Tryd.prog 28 #[x0, x1, x2] w = some r :=
  C_ev follows_all drawLaw (by kernel_rfl) Tryd.func28 (by rfl) ((s28eq x0 x1 x2 w).trans h)
theorem e28 {x0 x1 x2 : Value} {w : World} {Q : Value × World → Prop} (h : Brings (s28 x0 x1 x2 w) Q) : Brings (Xcall Tryd.prog (Value.func (Fn.func 28) #[] #[]) #[x0, x1, x2] w) Q :=
  h.call (Xcall_fn Tryd.func28 (by decide +kernel) (by rfl) _ _ _ w) fun _ h => c28 h

/-! lychgate/lychgateref13.found -/
noncomputable def s29 (x0 x1 : Value) (w : World) : Option (Value × World) :=
  (Xbox Tryd.prog 31 x0 w).bind fun r66 =>
  (Xalloc Tryd.prog 31 r66.2).bind fun r67 =>
  (Qun .not x1).bind fun v68 =>
  condK v68 (
    (Qbuild Tryd.prog 31 #[] r67.2).bind fun v69 =>
    (Xstore Tryd.prog 31 r67.1 v69 r67.2).bind fun r70 =>
    ((((Qload Tryd.prog 31 r67.1 r70.2).bind fun v => ((((some [])).map fun vs => (Value.bool false) :: vs)).map fun vs => v :: vs)).map oneOf).map fun v => (v, r70.2)
  ) (
    (Qload Tryd.prog 31 r66.1 r67.2).bind fun v71 =>
    (Xstore Tryd.prog 31 r67.1 v71 r67.2).bind fun r72 =>
    ((((Qload Tryd.prog 31 r67.1 r72.2).bind fun v => ((((some [])).map fun vs => (Value.bool true) :: vs)).map fun vs => v :: vs)).map oneOf).map fun v => (v, r72.2)
  )
theorem s29eq (x0 x1 : Value) (w : World) : evK Tryd.prog 29 none (bodyOf Tryd.f29) none _ { tmps := (([x0, x1] : List Value) ++ List.replicate (10 - 2) undef).toArray, defers := [] } w (leaveK Tryd.prog Tryd.f29) = s29 x0 x1 w := by kernel_rfl
theorem c29 {x0 x1 : Value} {w : World} {r : Value × World} (h : s29 x0 x1 w = some r) : C Tryd.prog 29 #[x0, x1] w = some r :=
  C_ev follows_all drawLaw (by kernel_rfl) Tryd.func29 (by rfl) ((s29eq x0 x1 w).trans h)
theorem e29 {x0 x1 : Value} {w : World} {Q : Value × World → Prop} (h : Brings (s29 x0 x1 w) Q) : Brings (Xcall Tryd.prog (Value.func (Fn.func 29) #[] #[]) #[x0, x1] w) Q :=
  h.call (Xcall_fn Tryd.func29 (by decide +kernel) (by rfl) _ _ _ w) fun _ h => c29 h

/-! lychgate/lychgateref13.Address -/
noncomputable def s30 (x0 x1 : Value) (w : World) : Option (Value × World) :=
  (Xcall Tryd.prog (Value.func (Fn.func 46) #[] #[]) #[x0, x1, (Value.int .i64 4), (Value.int .u8 46)] w).bind fun r73 =>
  (Qext r73.1 0).bind fun v74 =>
  (Qext r73.1 1).bind fun v75 =>
  (Qext r73.1 2).bind fun v76 =>
  (Qun .not v76).bind fun v77 =>
  condK v77 (
    some ((Value.tuple #[(Value.int .u32 0), x1, (Value.bool false)]), r73.2)
  ) (
    (Xcall Tryd.prog (Value.func (Fn.func 47) #[] #[]) #[v74] r73.2).bind fun r78 =>
    some ((Value.tuple #[r78.1, v75, (Value.bool true)]), r78.2)
  )
theorem s30eq (x0 x1 : Value) (w : World) : evK Tryd.prog 30 none (bodyOf Tryd.f30) none _ { tmps := (([x0, x1] : List Value) ++ List.replicate (23 - 2) undef).toArray, defers := [] } w (leaveK Tryd.prog Tryd.f30) = s30 x0 x1 w := by kernel_rfl
theorem c30 {x0 x1 : Value} {w : World} {r : Value × World} (h : s30 x0 x1 w = some r) : C Tryd.prog 30 #[x0, x1] w = some r :=
  C_ev follows_all drawLaw (by kernel_rfl) Tryd.func30 (by rfl) ((s30eq x0 x1 w).trans h)
theorem e30 {x0 x1 : Value} {w : World} {Q : Value × World → Prop} (h : Brings (s30 x0 x1 w) Q) : Brings (Xcall Tryd.prog (Value.func (Fn.func 30) #[] #[]) #[x0, x1] w) Q :=
  h.call (Xcall_fn Tryd.func30 (by decide +kernel) (by rfl) _ _ _ w) fun _ h => c30 h

/-! lychgate/lychgateref13.Number -/
noncomputable def s31K0 : Exit → Act → World → Option (Value × World) := seqK (fun a w => evK Tryd.prog 31 none (nav [1, 1, 1] (bodyOf Tryd.f31)) none _ a w (leaveK Tryd.prog Tryd.f31)) (leaveK Tryd.prog Tryd.f31)
noncomputable def s31K1 : Exit → Act → World → Option (Value × World) := blockK 0 s31K0
noncomputable def s31L0 (s : List Value) (d : List Deferred) (w : World) : Option (Value × World) := loopN Tryd.prog 31 none (nav [1, 1, 0, 0, 0] (bodyOf Tryd.f31)) s31K1 s d w
noncomputable def s31B0 : List Value → World → Option (Exit × List Value × World)
  | [x0, x1, x2, x9, x10], w =>
    (Qlen Tryd.prog #[22] 3 #[x0] w).bind fun v79 =>
    (Qbin Tryd.prog .lss 3 x10 v79).bind fun v80 =>
    (guardQ v80 true (QindexAddr Tryd.prog 22 (gv (isB v80 true) x0) (gv (isB v80 true) x10) w)).bind fun v81 =>
    (guardQ v80 true (Qload Tryd.prog 5 v81 w)).bind fun v82 =>
    (guardQ v80 true (Qbin Tryd.prog .geq 5 v82 (Value.int .u8 48))).bind fun v83 =>
    (Qpick v80 v83 (Value.bool false)).bind fun v84 =>
    (guardQ v84 true (QindexAddr Tryd.prog 22 (gv (isB v84 true) x0) (gv (isB v84 true) x10) w)).bind fun v85 =>
    (guardQ v84 true (Qload Tryd.prog 5 v85 w)).bind fun v86 =>
    (guardQ v84 true (Qbin Tryd.prog .leq 5 v86 (Value.int .u8 57))).bind fun v87 =>
    (Qpick v84 v87 (Value.bool false)).bind fun v88 =>
    (guardQ v88 true (Qbin Tryd.prog .leq 3 (gv (isB v88 true) x9) (gv (isB v88 true) x2))).bind fun v89 =>
    (Qpick v88 v89 (Value.bool false)).bind fun v90 =>
    condK v90 (
      (Qbin Tryd.prog .mul 3 x9 (Value.int .i64 10)).bind fun v91 =>
      (QindexAddr Tryd.prog 22 x0 x10 w).bind fun v92 =>
      (Qload Tryd.prog 5 v92 w).bind fun v93 =>
      (Qbin Tryd.prog .sub 5 v93 (Value.int .u8 48)).bind fun v94 =>
      (Qconv Tryd.prog 5 3 v94).bind fun v95 =>
      (Qbin Tryd.prog .add 3 v91 v95).bind fun v96 =>
      (Qbin Tryd.prog .add 3 x10 (Value.int .i64 1)).bind fun v97 =>
      some (Exit.normal, [x0, x1, x2, v96, v97], w)
    ) (
      some ((Exit.exit 0), [x0, x1, x2, x9, x10], w)
    )
  | _, _ => none
noncomputable def s31R0 : Exit → List Value → World → Option (Value × World)
  | (Exit.exit 0), [x0, x1, x2, x9, x10], w =>
    (Qbin Tryd.prog .eql 3 x10 x1).bind fun v98 =>
    (guardQ v98 false (Qbin Tryd.prog .gtr 3 (gv (isB v98 false) x9) (gv (isB v98 false) x2))).bind fun v99 =>
    (Qpick v98 (Value.bool true) v99).bind fun v100 =>
    (guardQ v100 false (QindexAddr Tryd.prog 22 (gv (isB v100 false) x0) (gv (isB v100 false) x1) w)).bind fun v101 =>
    (guardQ v100 false (Qload Tryd.prog 5 v101 w)).bind fun v102 =>
    (guardQ v100 false (Qbin Tryd.prog .eql 5 v102 (Value.int .u8 48))).bind fun v103 =>
    (guardQ (gv (isB v100 false) v103) true (Qbin Tryd.prog .add 3 (gv (isB (gv (isB v100 false) v103) true) x1) (Value.int .i64 1))).bind fun v104 =>
    (guardQ (gv (isB v100 false) v103) true (Qbin Tryd.prog .gtr 3 (gv (isB (gv (isB v100 false) v103) true) x10) v104)).bind fun v105 =>
    (guardQ v100 false (Qpick (gv (isB v100 false) v103) v105 (Value.bool false))).bind fun v106 =>
    (Qpick v100 (Value.bool true) v106).bind fun v107 =>
    (guardQ v107 false (Qlen Tryd.prog #[22] 3 #[(gv (isB v107 false) x0)] w)).bind fun v108 =>
    (guardQ v107 false (Qbin Tryd.prog .lss 3 (gv (isB v107 false) x10) v108)).bind fun v109 =>
    (guardQ (gv (isB v107 false) v109) true (QindexAddr Tryd.prog 22 (gv (isB (gv (isB v107 false) v109) true) x0) (gv (isB (gv (isB v107 false) v109) true) x10) w)).bind fun v110 =>
    (guardQ (gv (isB v107 false) v109) true (Qload Tryd.prog 5 v110 w)).bind fun v111 =>
    (guardQ (gv (isB v107 false) v109) true (Qbin Tryd.prog .geq 5 v111 (Value.int .u8 48))).bind fun v112 =>
    (guardQ v107 false (Qpick (gv (isB v107 false) v109) v112 (Value.bool false))).bind fun v113 =>
    (guardQ (gv (isB v107 false) v113) true (QindexAddr Tryd.prog 22 (gv (isB (gv (isB v107 false) v113) true) x0) (gv (isB (gv (isB v107 false) v113) true) x10) w)).bind fun v114 =>
    (guardQ (gv (isB v107 false) v113) true (Qload Tryd.prog 5 v114 w)).bind fun v115 =>
    (guardQ (gv (isB v107 false) v113) true (Qbin Tryd.prog .leq 5 v115 (Value.int .u8 57))).bind fun v116 =>
    (guardQ v107 false (Qpick (gv (isB v107 false) v113) v116 (Value.bool false))).bind fun v117 =>
    (Qpick v107 (Value.bool true) v117).bind fun v118 =>
    condK v118 (
      some ((Value.tuple #[(Value.int .i64 0), x1, (Value.bool false)]), w)
    ) (
      some ((Value.tuple #[x9, x10, (Value.bool true)]), w)
    )
  | _, _, _ => none
noncomputable def s31raw (x0 x1 x2 : Value) (w : World) : Option (Value × World) :=
  s31L0 [x0, x1, x2, undef, undef, undef, (Value.int .i64 0), (Value.int .i64 0), (Value.bool false), (Value.int .i64 0), x1, x1, undef, undef, undef, undef, undef, undef, undef, undef, undef, undef, undef, undef, undef, undef, undef, undef, undef, undef, undef, undef, undef, undef, undef, undef, undef, undef, undef, undef, undef, undef, undef, undef, undef, undef, undef, undef, undef, undef, undef, undef, undef, undef, undef, undef, undef, undef, undef, undef, undef, undef, undef, undef, undef, undef, undef, undef, undef, undef, undef, undef, undef, undef, undef, undef, undef, undef, undef, undef, undef, undef, undef, undef, undef, undef, undef, undef, undef, undef] [] w
noncomputable def s31 (x0 x1 x2 : Value) (w : World) : Option (Value × World) :=
  loopR s31B0 s31R0 [x0, x1, x2, (Value.int .i64 0), x1] w
theorem s31B0eq (x0 x1 x2 x9 x10 : Value) (w : World) (g : Nat → Value) (d : List Deferred) : evK Tryd.prog 31 none (nav [1, 1, 0, 0, 0] (bodyOf Tryd.f31)) none _ (frm 90 (setL [0, 1, 2, 9, 10] [x0, x1, x2, x9, x10] g) d) w (projK [0, 1, 2, 9, 10]) = s31B0 [x0, x1, x2, x9, x10] w := by kernel_rfl
theorem s31R0x0eq (x0 x1 x2 x9 x10 : Value) (g : Nat → Value) (w : World) : s31K1 (Exit.exit 0) (frm 90 (setL [0, 1, 2, 9, 10] [x0, x1, x2, x9, x10] g) []) w = s31R0 (Exit.exit 0) [x0, x1, x2, x9, x10] w := by kernel_rfl
theorem s31R0of : ∀ (e : Exit) (xs : List Value) (w : World) (g : Nat → Value) (y : _), s31R0 e xs w = some y → s31K1 e (frm 90 (setL [0, 1, 2, 9, 10] xs g) []) w = some y := by
  intro e xs w g y h
  unfold s31R0 at h
  split at h
  · exact (s31R0x0eq _ _ _ _ _ g _).trans h
  · cases h
set_option maxRecDepth 20000 in
theorem s31L0of {aA aB aC aD aE aF aG aH aI aJ aK aL aM aN aO aP aQ aR aS aT aU aV aW aX aY aZ bA bB bC bD bE bF bG bH bI bJ bK bL bM bN bO bP bQ bR bS bT bU bV bW bX bY bZ cA cB cC cD cE cF cG cH cI cJ cK cL cM cN cO cP cQ cR cS cT cU cV cW cX cY cZ dA dB dC dD dE dF dG dH dI dJ dK dL : Value} {w : World} {r : _} (h : loopR s31B0 s31R0 [aA,aB,aC,aJ,aK] w = some r) : s31L0 [aA,aB,aC,aD,aE,aF,aG,aH,aI,aJ,aK,aL,aM,aN,aO,aP,aQ,aR,aS,aT,aU,aV,aW,aX,aY,aZ,bA,bB,bC,bD,bE,bF,bG,bH,bI,bJ,bK,bL,bM,bN,bO,bP,bQ,bR,bS,bT,bU,bV,bW,bX,bY,bZ,cA,cB,cC,cD,cE,cF,cG,cH,cI,cJ,cK,cL,cM,cN,cO,cP,cQ,cR,cS,cT,cU,cV,cW,cX,cY,cZ,dA,dB,dC,dD,dE,dF,dG,dH,dI,dJ,dK,dL] [] w = some r :=
  loopN_of (B := s31B0) (R := s31R0) (n := 90) (live := [0, 1, 2, 9, 10]) (fun xs w g y hl h => match xs, hl, h with | [x0, x1, x2, x9, x10], _, h => (s31B0eq x0 x1 x2 x9 x10 w g []).trans h) (by kernel_rfl) (s31R0of) (fun i => ([aA,aB,aC,aD,aE,aF,aG,aH,aI,aJ,aK,aL,aM,aN,aO,aP,aQ,aR,aS,aT,aU,aV,aW,aX,aY,aZ,bA,bB,bC,bD,bE,bF,bG,bH,bI,bJ,bK,bL,bM,bN,bO,bP,bQ,bR,bS,bT,bU,bV,bW,bX,bY,bZ,cA,cB,cC,cD,cE,cF,cG,cH,cI,cJ,cK,cL,cM,cN,cO,cP,cQ,cR,cS,cT,cU,cV,cW,cX,cY,cZ,dA,dB,dC,dD,dE,dF,dG,dH,dI,dJ,dK,dL] : List Value).getD i undef) (by kernel_rfl) rfl h
theorem s31eq (x0 x1 x2 : Value) (w : World) : evK Tryd.prog 31 none (bodyOf Tryd.f31) none _ { tmps := (([x0, x1, x2] : List Value) ++ List.replicate (90 - 3) undef).toArray, defers := [] } w (leaveK Tryd.prog Tryd.f31) = s31raw x0 x1 x2 w := by kernel_rfl
set_option maxRecDepth 100000 in
theorem c31 {x0 x1 x2 : Value} {w : World} {r : Value × World} (h : s31 x0 x1 x2 w = some r) : C Tryd.prog 31 #[x0, x1, x2] w = some r :=
  C_ev follows_all drawLaw (by kernel_rfl) Tryd.func31 (by rfl) ((s31eq x0 x1 x2 w).trans (show s31raw x0 x1 x2 w = some r from (s31L0of) h))
theorem e31 {x0 x1 x2 : Value} {w : World} {Q : Value × World → Prop} (h : Brings (s31 x0 x1 x2 w) Q) : Brings (Xcall Tryd.prog (Value.func (Fn.func 31) #[] #[]) #[x0, x1, x2] w) Q :=
  h.call (Xcall_fn Tryd.func31 (by decide +kernel) (by rfl) _ _ _ w) fun _ h => c31 h

/-! lychgate/lychgateref13.open -/
noncomputable def s32K0 : Exit → Act → World → Option (Value × World) := seqK (fun a w => evK Tryd.prog 32 none (nav [1, 1] (bodyOf Tryd.f32)) none _ a w (leaveK Tryd.prog Tryd.f32)) (leaveK Tryd.prog Tryd.f32)
noncomputable def s32K1 : Exit → Act → World → Option (Value × World) := blockK 0 s32K0
noncomputable def s32L0 (s : List Value) (d : List Deferred) (w : World) : Option (Value × World) := loopN Tryd.prog 32 none (nav [1, 0, 1, 0, 0] (bodyOf Tryd.f32)) s32K1 s d w
noncomputable def s32B0 : List Value → World → Option (Exit × List Value × World)
  | [x0, x4, x5], w =>
    (Qlen Tryd.prog #[22] 3 #[x0] w).bind fun v119 =>
    (Qbin Tryd.prog .lss 3 x5 v119).bind fun v120 =>
    condK v120 (
      (QindexAddr Tryd.prog 22 x0 x5 w).bind fun v121 =>
      (Qload Tryd.prog 5 v121 w).bind fun v122 =>
      (Qbin Tryd.prog .eql 5 v122 (Value.int .u8 40)).bind fun v123 =>
      condK v123 (
        some (Exit.ret, [x0, x5, x5], w)
      ) (
        (Qbin Tryd.prog .add 3 x5 (Value.int .i64 1)).bind fun v124 =>
        some (Exit.normal, [x0, x4, v124], w)
      )
    ) (
      some ((Exit.exit 0), [x0, x4, x5], w)
    )
  | _, _ => none
noncomputable def s32R0 : Exit → List Value → World → Option (Value × World)
  | (Exit.exit 0), [_, _, _], w =>
    some ((Value.int .i64 (-1)), w)
  | Exit.ret, [_, x4, _], w =>
    some (x4, w)
  | _, _, _ => none
noncomputable def s32raw (x0 x1 : Value) (w : World) : Option (Value × World) :=
  s32L0 [x0, x1, undef, undef, (Value.int .i64 0), x1, x1, undef, undef, undef, undef, undef, undef, undef, undef, undef, undef, undef, undef] [] w
noncomputable def s32 (x0 x1 : Value) (w : World) : Option (Value × World) :=
  loopR s32B0 s32R0 [x0, (Value.int .i64 0), x1] w
theorem s32B0eq (x0 x4 x5 : Value) (w : World) (g : Nat → Value) (d : List Deferred) : evK Tryd.prog 32 none (nav [1, 0, 1, 0, 0] (bodyOf Tryd.f32)) none _ (frm 19 (setL [0, 4, 5] [x0, x4, x5] g) d) w (projK [0, 4, 5]) = s32B0 [x0, x4, x5] w := by kernel_rfl
theorem s32R0x0eq (x0 x4 x5 : Value) (g : Nat → Value) (w : World) : s32K1 (Exit.exit 0) (frm 19 (setL [0, 4, 5] [x0, x4, x5] g) []) w = s32R0 (Exit.exit 0) [x0, x4, x5] w := by kernel_rfl
theorem s32R0ret_eq (x0 x4 x5 : Value) (g : Nat → Value) (w : World) : s32K1 Exit.ret (frm 19 (setL [0, 4, 5] [x0, x4, x5] g) []) w = s32R0 Exit.ret [x0, x4, x5] w := by kernel_rfl
theorem s32R0of : ∀ (e : Exit) (xs : List Value) (w : World) (g : Nat → Value) (y : _), s32R0 e xs w = some y → s32K1 e (frm 19 (setL [0, 4, 5] xs g) []) w = some y := by
  intro e xs w g y h
  unfold s32R0 at h
  split at h
  · exact (s32R0x0eq _ _ _ g _).trans h
  · exact (s32R0ret_eq _ _ _ g _).trans h
  · cases h
set_option maxRecDepth 20000 in
theorem s32L0of {aA aB aC aD aE aF aG aH aI aJ aK aL aM aN aO aP aQ aR aS : Value} {w : World} {r : _} (h : loopR s32B0 s32R0 [aA,aE,aF] w = some r) : s32L0 [aA,aB,aC,aD,aE,aF,aG,aH,aI,aJ,aK,aL,aM,aN,aO,aP,aQ,aR,aS] [] w = some r :=
  loopN_of (B := s32B0) (R := s32R0) (n := 19) (live := [0, 4, 5]) (fun xs w g y hl h => match xs, hl, h with | [x0, x4, x5], _, h => (s32B0eq x0 x4 x5 w g []).trans h) (by kernel_rfl) (s32R0of) (fun i => ([aA,aB,aC,aD,aE,aF,aG,aH,aI,aJ,aK,aL,aM,aN,aO,aP,aQ,aR,aS] : List Value).getD i undef) (by kernel_rfl) rfl h
theorem s32eq (x0 x1 : Value) (w : World) : evK Tryd.prog 32 none (bodyOf Tryd.f32) none _ { tmps := (([x0, x1] : List Value) ++ List.replicate (19 - 2) undef).toArray, defers := [] } w (leaveK Tryd.prog Tryd.f32) = s32raw x0 x1 w := by kernel_rfl
theorem c32 {x0 x1 : Value} {w : World} {r : Value × World} (h : s32 x0 x1 w = some r) : C Tryd.prog 32 #[x0, x1] w = some r :=
  C_ev follows_all drawLaw (by kernel_rfl) Tryd.func32 (by rfl) ((s32eq x0 x1 w).trans (show s32raw x0 x1 w = some r from (s32L0of) h))
theorem e32 {x0 x1 : Value} {w : World} {Q : Value × World → Prop} (h : Brings (s32 x0 x1 w) Q) : Brings (Xcall Tryd.prog (Value.func (Fn.func 32) #[] #[]) #[x0, x1] w) Q :=
  h.call (Xcall_fn Tryd.func32 (by decide +kernel) (by rfl) _ _ _ w) fun _ h => c32 h

/-! lychgate/lychgateref13.numbers -/
noncomputable def s46K0 : Exit → Act → World → Option (Value × World) := seqK (fun a w => evK Tryd.prog 46 none (nav [1, 1, 1] (bodyOf Tryd.f46)) none _ a w (leaveK Tryd.prog Tryd.f46)) (leaveK Tryd.prog Tryd.f46)
noncomputable def s46K1 : Exit → Act → World → Option (Value × World) := blockK 0 s46K0
noncomputable def s46L0 (s : List Value) (d : List Deferred) (w : World) : Option (Value × World) := loopN Tryd.prog 46 none (nav [1, 1, 0, 1, 0, 0] (bodyOf Tryd.f46)) s46K1 s d w
noncomputable def s46K2 : Exit → Act → World → Option (Exit × List Value × World) := seqK (fun a w => evK Tryd.prog 46 none (nav [1, 1, 0, 1, 0, 0, 1, 1] (bodyOf Tryd.f46)) none _ a w (projK [0, 1, 2, 3, 8, 9, 10, 11, 12])) (projK [0, 1, 2, 3, 8, 9, 10, 11, 12])
noncomputable def s46K3 : Exit → Act → World → Option (Exit × List Value × World) := blockK 1 s46K2
noncomputable def s46K4 : Exit → Act → World → Option (Exit × List Value × World) := seqK (fun a w => evK Tryd.prog 46 none (nav [1, 1, 0, 1, 0, 0, 1, 0, 0, 1] (bodyOf Tryd.f46)) none _ a w s46K3) s46K3
noncomputable def s46J1 (s : List Value) (d : List Deferred) (w : World) : Option (Exit × List Value × World) := s46K4 .normal ⟨s.toArray, d⟩ w
noncomputable def s46M1 (aA aB aC aD aE aF aG aH aI : Value) (w : World) : Option (Exit × List Value × World) :=
  (Xcall Tryd.prog (Value.func (Fn.func 31) #[] #[]) #[aA,aB, (Value.int .i64 255)] w).bind fun r134 =>
  (Qext r134.1 0).bind fun v135 =>
  (Qext r134.1 1).bind fun v136 =>
  (Qext r134.1 2).bind fun v137 =>
  (Qun .not v137).bind fun v138 =>
  condK v138 (
    some (Exit.ret, [aA,aB,aC,aD, (Value.slice none 0 0), aB, (Value.bool false), aH,aI], r134.2)
  ) (
    (XbuildSlice Tryd.prog 99 1 #[(0, v135)] r134.2).bind fun r139 =>
    (Xbi Tryd.prog Go.Builtin.append #[99, 99] 99 #[aH, r139.1] r139.2).bind fun r140 =>
    (Qbin Tryd.prog .add 3 aI (Value.int .i64 1)).bind fun v141 =>
    some (Exit.normal, [aA, v136, aC,aD,aE,aF,aG, r140.1, v141], r140.2)
  )
noncomputable def s46B0raw (g : Nat → Value) (d : List Deferred) : List Value → World → Option (Exit × List Value × World)
  | [x0, x1, x2, x3, x8, x9, x10, x11, x12], w =>
    (Qbin Tryd.prog .lss 3 x12 x2).bind fun v125 =>
    condK v125 (
      (Qbin Tryd.prog .gtr 3 x12 (Value.int .i64 0)).bind fun v126 =>
      condK v126 (
        (Qlen Tryd.prog #[22] 3 #[x0] w).bind fun v127 =>
        (Qbin Tryd.prog .geq 3 x1 v127).bind fun v128 =>
        (guardQ v128 false (QindexAddr Tryd.prog 22 (gv (isB v128 false) x0) (gv (isB v128 false) x1) w)).bind fun v129 =>
        (guardQ v128 false (Qload Tryd.prog 5 v129 w)).bind fun v130 =>
        (guardQ v128 false (Qbin Tryd.prog .neq 5 v130 (gv (isB v128 false) x3))).bind fun v131 =>
        (Qpick v128 (Value.bool true) v131).bind fun v132 =>
        condK v132 (
          some (Exit.ret, [x0, x1, x2, x3, (Value.slice none 0 0), x1, (Value.bool false), x11, x12], w)
        ) (
          (Qbin Tryd.prog .add 3 x1 (Value.int .i64 1)).bind fun v133 =>
          s46J1 [x0, v133, x2, x3, g 4,g 5,g 6,g 7, x8, x9, x10, x11, x12, g 13,g 14,g 15, x12, x2, v125, g 19,g 20, x12, v126, x1, x0, v127, v128, v128, (gv (isB v128 false) x0), (gv (isB v128 false) x1), v129, v130, (gv (isB v128 false) x3), v131, v132, g 35, x1, v133, g 38,g 39,g 40,g 41,g 42,g 43,g 44,g 45,g 46,g 47,g 48,g 49,g 50,g 51,g 52,g 53,g 54] d w
        )
      ) (
        s46J1 [x0, x1, x2, x3, g 4,g 5,g 6,g 7, x8, x9, x10, x11, x12, g 13,g 14,g 15, x12, x2, v125, g 19,g 20, x12, v126, g 23,g 24,g 25,g 26,g 27,g 28,g 29,g 30,g 31,g 32,g 33,g 34,g 35,g 36,g 37,g 38,g 39,g 40,g 41,g 42,g 43,g 44,g 45,g 46,g 47,g 48,g 49,g 50,g 51,g 52,g 53,g 54] d w
      )
    ) (
      some ((Exit.exit 0), [x0, x1, x2, x3, x8, x9, x10, x11, x12], w)
    )
  | _, _ => none
noncomputable def s46B0 : List Value → World → Option (Exit × List Value × World)
  | [x0, x1, x2, x3, x8, x9, x10, x11, x12], w =>
    (Qbin Tryd.prog .lss 3 x12 x2).bind fun v125 =>
    condK v125 (
      (Qbin Tryd.prog .gtr 3 x12 (Value.int .i64 0)).bind fun v126 =>
      condK v126 (
        (Qlen Tryd.prog #[22] 3 #[x0] w).bind fun v127 =>
        (Qbin Tryd.prog .geq 3 x1 v127).bind fun v128 =>
        (guardQ v128 false (QindexAddr Tryd.prog 22 (gv (isB v128 false) x0) (gv (isB v128 false) x1) w)).bind fun v129 =>
        (guardQ v128 false (Qload Tryd.prog 5 v129 w)).bind fun v130 =>
        (guardQ v128 false (Qbin Tryd.prog .neq 5 v130 (gv (isB v128 false) x3))).bind fun v131 =>
        (Qpick v128 (Value.bool true) v131).bind fun v132 =>
        condK v132 (
          some (Exit.ret, [x0, x1, x2, x3, (Value.slice none 0 0), x1, (Value.bool false), x11, x12], w)
        ) (
          (Qbin Tryd.prog .add 3 x1 (Value.int .i64 1)).bind fun v133 =>
          s46M1 x0 v133 x2 x3 x8 x9 x10 x11 x12 w
        )
      ) (
        s46M1 x0 x1 x2 x3 x8 x9 x10 x11 x12 w
      )
    ) (
      some ((Exit.exit 0), [x0, x1, x2, x3, x8, x9, x10, x11, x12], w)
    )
  | _, _ => none
noncomputable def s46R0 : Exit → List Value → World → Option (Value × World)
  | (Exit.exit 0), [_, x1, _, _, _, _, _, x11, _], w =>
    some ((Value.tuple #[x11, x1, (Value.bool true)]), w)
  | Exit.ret, [_, _, _, _, x8, x9, x10, _, _], w =>
    some ((Value.tuple #[x8, x9, x10]), w)
  | _, _, _ => none
noncomputable def s46raw (x0 x1 x2 x3 : Value) (w : World) : Option (Value × World) :=
  s46L0 [x0, x1, x2, x3, undef, undef, undef, undef, (Value.slice none 0 0), (Value.int .i64 0), (Value.bool false), (Value.slice none 0 0), (Value.int .i64 0), undef, undef, undef, undef, undef, undef, undef, undef, undef, undef, undef, undef, undef, undef, undef, undef, undef, undef, undef, undef, undef, undef, undef, undef, undef, undef, undef, undef, undef, undef, undef, undef, undef, undef, undef, undef, undef, undef, undef, undef, undef, undef] [] w
noncomputable def s46 (x0 x1 x2 x3 : Value) (w : World) : Option (Value × World) :=
  loopR s46B0 s46R0 [x0, x1, x2, x3, (Value.slice none 0 0), (Value.int .i64 0), (Value.bool false), (Value.slice none 0 0), (Value.int .i64 0)] w
theorem s46J1eq {aA aB aC aD aE aF aG aH aI aJ aK aL aM aN aO aP aQ aR aS aT aU aV aW aX aY aZ bA bB bC bD bE bF bG bH bI bJ bK bL bM bN bO bP bQ bR bS bT bU bV bW bX bY bZ cA cB cC : Value} (w : World) : s46J1 [aA,aB,aC,aD,aE,aF,aG,aH,aI,aJ,aK,aL,aM,aN,aO,aP,aQ,aR,aS,aT,aU,aV,aW,aX,aY,aZ,bA,bB,bC,bD,bE,bF,bG,bH,bI,bJ,bK,bL,bM,bN,bO,bP,bQ,bR,bS,bT,bU,bV,bW,bX,bY,bZ,cA,cB,cC] [] w = s46M1 aA aB aC aD aI aJ aK aL aM w := (show _ = evK Tryd.prog 46 none (nav [1, 1, 0, 1, 0, 0, 1, 0, 0, 1] (bodyOf Tryd.f46)) none _ ⟨[aA,aB,aC,aD,aE,aF,aG,aH,aI,aJ,aK,aL,aM,aN,aO,aP,aQ,aR,aS,aT,aU,aV,aW,aX,aY,aZ,bA,bB,bC,bD,bE,bF,bG,bH,bI,bJ,bK,bL,bM,bN,bO,bP,bQ,bR,bS,bT,bU,bV,bW,bX,bY,bZ,cA,cB,cC].toArray, []⟩ w s46K3 from by kernel_rfl).trans (by kernel_rfl)
theorem s46J1of {aA aB aC aD aE aF aG aH aI aJ aK aL aM aN aO aP aQ aR aS aT aU aV aW aX aY aZ bA bB bC bD bE bF bG bH bI bJ bK bL bM bN bO bP bQ bR bS bT bU bV bW bX bY bZ cA cB cC : Value} {w : World} {r : _} (h : s46M1 aA aB aC aD aI aJ aK aL aM w = some r) : s46J1 [aA,aB,aC,aD,aE,aF,aG,aH,aI,aJ,aK,aL,aM,aN,aO,aP,aQ,aR,aS,aT,aU,aV,aW,aX,aY,aZ,bA,bB,bC,bD,bE,bF,bG,bH,bI,bJ,bK,bL,bM,bN,bO,bP,bQ,bR,bS,bT,bU,bV,bW,bX,bY,bZ,cA,cB,cC] [] w = some r :=
  ((s46J1eq w).trans h)
theorem s46B0eq (x0 x1 x2 x3 x8 x9 x10 x11 x12 : Value) (w : World) (g : Nat → Value) (d : List Deferred) : evK Tryd.prog 46 none (nav [1, 1, 0, 1, 0, 0] (bodyOf Tryd.f46)) none _ (frm 55 (setL [0, 1, 2, 3, 8, 9, 10, 11, 12] [x0, x1, x2, x3, x8, x9, x10, x11, x12] g) d) w (projK [0, 1, 2, 3, 8, 9, 10, 11, 12]) = s46B0raw g d [x0, x1, x2, x3, x8, x9, x10, x11, x12] w := by kernel_rfl
theorem s46R0x0eq (x0 x1 x2 x3 x8 x9 x10 x11 x12 : Value) (g : Nat → Value) (w : World) : s46K1 (Exit.exit 0) (frm 55 (setL [0, 1, 2, 3, 8, 9, 10, 11, 12] [x0, x1, x2, x3, x8, x9, x10, x11, x12] g) []) w = s46R0 (Exit.exit 0) [x0, x1, x2, x3, x8, x9, x10, x11, x12] w := by kernel_rfl
theorem s46R0ret_eq (x0 x1 x2 x3 x8 x9 x10 x11 x12 : Value) (g : Nat → Value) (w : World) : s46K1 Exit.ret (frm 55 (setL [0, 1, 2, 3, 8, 9, 10, 11, 12] [x0, x1, x2, x3, x8, x9, x10, x11, x12] g) []) w = s46R0 Exit.ret [x0, x1, x2, x3, x8, x9, x10, x11, x12] w := by kernel_rfl
theorem s46R0of : ∀ (e : Exit) (xs : List Value) (w : World) (g : Nat → Value) (y : _), s46R0 e xs w = some y → s46K1 e (frm 55 (setL [0, 1, 2, 3, 8, 9, 10, 11, 12] xs g) []) w = some y := by
  intro e xs w g y h
  unfold s46R0 at h
  split at h
  · exact (s46R0x0eq _ _ _ _ _ _ _ _ _ g _).trans h
  · exact (s46R0ret_eq _ _ _ _ _ _ _ _ _ g _).trans h
  · cases h
set_option maxRecDepth 20000 in
theorem s46L0of {aA aB aC aD aE aF aG aH aI aJ aK aL aM aN aO aP aQ aR aS aT aU aV aW aX aY aZ bA bB bC bD bE bF bG bH bI bJ bK bL bM bN bO bP bQ bR bS bT bU bV bW bX bY bZ cA cB cC : Value} {w : World} {r : _} (h : loopR s46B0 s46R0 [aA,aB,aC,aD,aI,aJ,aK,aL,aM] w = some r) : s46L0 [aA,aB,aC,aD,aE,aF,aG,aH,aI,aJ,aK,aL,aM,aN,aO,aP,aQ,aR,aS,aT,aU,aV,aW,aX,aY,aZ,bA,bB,bC,bD,bE,bF,bG,bH,bI,bJ,bK,bL,bM,bN,bO,bP,bQ,bR,bS,bT,bU,bV,bW,bX,bY,bZ,cA,cB,cC] [] w = some r :=
  loopN_of (B := s46B0) (R := s46R0) (n := 55) (live := [0, 1, 2, 3, 8, 9, 10, 11, 12]) (fun xs w g y hl h => match xs, hl, h with | [x0, x1, x2, x3, x8, x9, x10, x11, x12], _, h => (s46B0eq x0 x1 x2 x3 x8 x9 x10 x11 x12 w g []).trans (show s46B0raw g [] [x0, x1, x2, x3, x8, x9, x10, x11, x12] w = some y from (Ev.bind_mono fun (_ : Value) => (condK_mono (Ev.bind_mono fun (_ : Value) => (condK_mono (Ev.bind_mono fun (_ : Value) => (Ev.bind_mono fun (_ : Value) => (Ev.bind_mono fun (_ : Value) => (Ev.bind_mono fun (_ : Value) => (Ev.bind_mono fun (_ : Value) => (Ev.bind_mono fun (_ : Value) => (condK_mono id (Ev.bind_mono fun (_ : Value) => (s46J1of))))))))) (s46J1of))) id)) h)) (by kernel_rfl) (s46R0of) (fun i => ([aA,aB,aC,aD,aE,aF,aG,aH,aI,aJ,aK,aL,aM,aN,aO,aP,aQ,aR,aS,aT,aU,aV,aW,aX,aY,aZ,bA,bB,bC,bD,bE,bF,bG,bH,bI,bJ,bK,bL,bM,bN,bO,bP,bQ,bR,bS,bT,bU,bV,bW,bX,bY,bZ,cA,cB,cC] : List Value).getD i undef) (by kernel_rfl) rfl h
theorem s46eq (x0 x1 x2 x3 : Value) (w : World) : evK Tryd.prog 46 none (bodyOf Tryd.f46) none _ { tmps := (([x0, x1, x2, x3] : List Value) ++ List.replicate (55 - 4) undef).toArray, defers := [] } w (leaveK Tryd.prog Tryd.f46) = s46raw x0 x1 x2 x3 w := by kernel_rfl
theorem c46 {x0 x1 x2 x3 : Value} {w : World} {r : Value × World} (h : s46 x0 x1 x2 x3 w = some r) : C Tryd.prog 46 #[x0, x1, x2, x3] w = some r :=
  C_ev follows_all drawLaw (by kernel_rfl) Tryd.func46 (by rfl) ((s46eq x0 x1 x2 x3 w).trans (show s46raw x0 x1 x2 x3 w = some r from (s46L0of) h))
theorem e46 {x0 x1 x2 x3 : Value} {w : World} {Q : Value × World → Prop} (h : Brings (s46 x0 x1 x2 x3 w) Q) : Brings (Xcall Tryd.prog (Value.func (Fn.func 46) #[] #[]) #[x0, x1, x2, x3] w) Q :=
  h.call (Xcall_fn Tryd.func46 (by decide +kernel) (by rfl) _ _ _ w) fun _ h => c46 h

/-! lychgate/lychgateref13.addr -/
noncomputable def s47 (x0 : Value) (w : World) : Option (Value × World) :=
  (QindexAddr Tryd.prog 99 x0 (Value.int .i64 0) w.drew).bind fun v142 =>
  (Qload Tryd.prog 3 v142 w.drew).bind fun v143 =>
  (Qconv Tryd.prog 3 24 v143).bind fun v144 =>
  (Qbin Tryd.prog .shl 24 v144 (Value.int .u64 24)).bind fun v145 =>
  (QindexAddr Tryd.prog 99 x0 (Value.int .i64 1) w.drew).bind fun v146 =>
  (Qload Tryd.prog 3 v146 w.drew).bind fun v147 =>
  (Qconv Tryd.prog 3 24 v147).bind fun v148 =>
  (Qbin Tryd.prog .shl 24 v148 (Value.int .u64 16)).bind fun v149 =>
  (Qbin Tryd.prog .or 24 v145 v149).bind fun v150 =>
  (QindexAddr Tryd.prog 99 x0 (Value.int .i64 2) w.drew).bind fun v151 =>
  (Qload Tryd.prog 3 v151 w.drew).bind fun v152 =>
  (Qconv Tryd.prog 3 24 v152).bind fun v153 =>
  (Qbin Tryd.prog .shl 24 v153 (Value.int .u64 8)).bind fun v154 =>
  (Qbin Tryd.prog .or 24 v150 v154).bind fun v155 =>
  (QindexAddr Tryd.prog 99 x0 (Value.int .i64 3) w.drew).bind fun v156 =>
  (Qload Tryd.prog 3 v156 w.drew).bind fun v157 =>
  (Qconv Tryd.prog 3 24 v157).bind fun v158 =>
  (Qbin Tryd.prog .or 24 v155 v158).bind fun v159 =>
  chkK True (
    some (v159, w.drew)
  )
theorem s47eq (x0 : Value) (w : World) : evK Tryd.prog 47 none (bodyOf Tryd.f47) none _ { tmps := (([x0] : List Value) ++ List.replicate (25 - 1) undef).toArray, defers := [] } w (leaveK Tryd.prog Tryd.f47) = s47 x0 w := by kernel_rfl
theorem c47 {x0 : Value} {w : World} {r : Value × World} (h : s47 x0 w = some r) : C Tryd.prog 47 #[x0] w = some r :=
  C_ev follows_all drawLaw (by kernel_rfl) Tryd.func47 (by rfl) ((s47eq x0 w).trans h)
theorem e47 {x0 : Value} {w : World} {Q : Value × World → Prop} (h : Brings (s47 x0 w) Q) : Brings (Xcall Tryd.prog (Value.func (Fn.func 47) #[] #[]) #[x0] w) Q :=
  h.call (Xcall_fn Tryd.func47 (by decide +kernel) (by rfl) _ _ _ w) fun _ h => c47 h

/-! lychgate/lychgateref13.Find -/
noncomputable def s11 (x0 x1 : Value) (w : World) : Option (Value × World) :=
  (Xalloc Tryd.prog 31 w).bind fun r160 =>
  (Xcall Tryd.prog (Value.func (Fn.func 26) #[] #[]) #[x0] r160.2).bind fun r161 =>
  (Qun .not r161.1).bind fun v162 =>
  condK v162 (
    (Qbuild Tryd.prog 31 #[] r161.2).bind fun v163 =>
    (Xstore Tryd.prog 31 r160.1 v163 r161.2).bind fun r164 =>
    ((((Qload Tryd.prog 31 r160.1 r164.2).bind fun v => ((((some [])).map fun vs => (Value.bool false) :: vs)).map fun vs => v :: vs)).map oneOf).map fun v => (v, r164.2)
  ) (
    (Qlen Tryd.prog #[22] 3 #[x0] r161.2).bind fun v165 =>
    (Qbin Tryd.prog .sub 3 v165 (Value.int .i64 2)).bind fun v166 =>
    (Qun .not x1).bind fun v167 =>
    condK v167 (
      (Xcall Tryd.prog (Value.func (Fn.func 27) #[] #[]) #[x0, (Value.int .i64 0), (Value.string { data := #[80, 79, 82, 84, 32] })] r161.2).bind fun r168 =>
      condK r168.1 (
        (Xcall Tryd.prog (Value.func (Fn.func 28) #[] #[]) #[x0, (Value.int .i64 5), (Value.int .i64 1)] r168.2).bind fun r169 =>
        (Qext r169.1 0).bind fun v170 =>
        (Qext r169.1 1).bind fun v171 =>
        (Xalloc Tryd.prog 31 r169.2).bind fun r172 =>
        (Xstore Tryd.prog 31 r172.1 v170 r172.2).bind fun r173 =>
        (Qload Tryd.prog 31 r172.1 r173.2).bind fun v174 =>
        (guardQ v171 true (QfieldAddr Tryd.prog 31 r172.1 2)).bind fun v175 =>
        (guardQ v171 true (Qload Tryd.prog 3 v175 r173.2)).bind fun v176 =>
        (guardQ v171 true (Qbin Tryd.prog .eql 3 v176 (gv (isB v171 true) v166))).bind fun v177 =>
        (Qpick v171 v177 (Value.bool false)).bind fun v178 =>
        (Xcall Tryd.prog (Value.func (Fn.func 29) #[] #[]) #[v174, v178] r173.2).bind fun r179 =>
        (Qext r179.1 0).bind fun v180 =>
        (Qext r179.1 1).bind fun v181 =>
        (Xstore Tryd.prog 31 r160.1 v180 r179.2).bind fun r182 =>
        ((((Qload Tryd.prog 31 r160.1 r182.2).bind fun v => ((((some [])).map fun vs => v181 :: vs)).map fun vs => v :: vs)).map oneOf).map fun v => (v, r182.2)
      ) (
        (Xcall Tryd.prog (Value.func (Fn.func 27) #[] #[]) #[x0, (Value.int .i64 0), (Value.string { data := #[69, 80, 82, 84, 32, 124, 49, 124] })] r168.2).bind fun r183 =>
        (Qun .not r183.1).bind fun v184 =>
        condK v184 (
          (Qbuild Tryd.prog 31 #[] r183.2).bind fun v185 =>
          (Xstore Tryd.prog 31 r160.1 v185 r183.2).bind fun r186 =>
          ((((Qload Tryd.prog 31 r160.1 r186.2).bind fun v => ((((some [])).map fun vs => (Value.bool false) :: vs)).map fun vs => v :: vs)).map oneOf).map fun v => (v, r186.2)
        ) (
          (Xcall Tryd.prog (Value.func (Fn.func 30) #[] #[]) #[x0, (Value.int .i64 8)] r183.2).bind fun r187 =>
          (Qext r187.1 0).bind fun v188 =>
          (Qext r187.1 1).bind fun v189 =>
          (Qext r187.1 2).bind fun v190 =>
          (Qun .not v190).bind fun v191 =>
          (guardQ v191 false (QindexAddr Tryd.prog 22 (gv (isB v191 false) x0) (gv (isB v191 false) v189) r187.2)).bind fun v192 =>
          (guardQ v191 false (Qload Tryd.prog 5 v192 r187.2)).bind fun v193 =>
          (guardQ v191 false (Qbin Tryd.prog .neq 5 v193 (Value.int .u8 124))).bind fun v194 =>
          (Qpick v191 (Value.bool true) v194).bind fun v195 =>
          condK v195 (
            (Qbuild Tryd.prog 31 #[] r187.2).bind fun v196 =>
            (Xstore Tryd.prog 31 r160.1 v196 r187.2).bind fun r197 =>
            ((((Qload Tryd.prog 31 r160.1 r197.2).bind fun v => ((((some [])).map fun vs => (Value.bool false) :: vs)).map fun vs => v :: vs)).map oneOf).map fun v => (v, r197.2)
          ) (
            (Qbin Tryd.prog .add 3 v189 (Value.int .i64 1)).bind fun v198 =>
            (Xcall Tryd.prog (Value.func (Fn.func 31) #[] #[]) #[x0, v198, (Value.int .i64 65535)] r187.2).bind fun r199 =>
            (Qext r199.1 0).bind fun v200 =>
            (Qext r199.1 1).bind fun v201 =>
            (Qext r199.1 2).bind fun v202 =>
            (Qbin Tryd.prog .add 3 v201 (Value.int .i64 1)).bind fun v203 =>
            (Qconv Tryd.prog 3 25 v200).bind fun v204 =>
            (Qbuild Tryd.prog 31 #[(0, (Value.int .i64 2)), (1, (Value.int .i64 5)), (2, v203), (3, v188), (4, v204)] r199.2).bind fun v205 =>
            (guardQ v202 true (Qbin Tryd.prog .gtr 3 (gv (isB v202 true) v200) (Value.int .i64 0))).bind fun v206 =>
            (Qpick v202 v206 (Value.bool false)).bind fun v207 =>
            (guardQ v207 true (QindexAddr Tryd.prog 22 (gv (isB v207 true) x0) (gv (isB v207 true) v201) r199.2)).bind fun v208 =>
            (guardQ v207 true (Qload Tryd.prog 5 v208 r199.2)).bind fun v209 =>
            (guardQ v207 true (Qbin Tryd.prog .eql 5 v209 (Value.int .u8 124))).bind fun v210 =>
            (Qpick v207 v210 (Value.bool false)).bind fun v211 =>
            (guardQ v211 true (Qbin Tryd.prog .add 3 (gv (isB v211 true) v201) (Value.int .i64 1))).bind fun v212 =>
            (guardQ v211 true (Qbin Tryd.prog .eql 3 v212 (gv (isB v211 true) v166))).bind fun v213 =>
            (Qpick v211 v213 (Value.bool false)).bind fun v214 =>
            (Xcall Tryd.prog (Value.func (Fn.func 29) #[] #[]) #[v205, v214] r199.2).bind fun r215 =>
            (Qext r215.1 0).bind fun v216 =>
            (Qext r215.1 1).bind fun v217 =>
            (Xstore Tryd.prog 31 r160.1 v216 r215.2).bind fun r218 =>
            ((((Qload Tryd.prog 31 r160.1 r218.2).bind fun v => ((((some [])).map fun vs => v217 :: vs)).map fun vs => v :: vs)).map oneOf).map fun v => (v, r218.2)
          )
        )
      )
    ) (
      (Xcall Tryd.prog (Value.func (Fn.func 32) #[] #[]) #[x0, (Value.int .i64 0)] r161.2).bind fun r219 =>
      (Xcall Tryd.prog (Value.func (Fn.func 27) #[] #[]) #[x0, (Value.int .i64 0), (Value.string { data := #[50, 50, 55, 32] })] r219.2).bind fun r220 =>
      (guardQ r220.1 true (Qbin Tryd.prog .geq 3 (gv (isB r220.1 true) r219.1) (Value.int .i64 4))).bind fun v221 =>
      (Qpick r220.1 v221 (Value.bool false)).bind fun v222 =>
      condK v222 (
        (Qbin Tryd.prog .add 3 r219.1 (Value.int .i64 1)).bind fun v223 =>
        (Xcall Tryd.prog (Value.func (Fn.func 28) #[] #[]) #[x0, v223, (Value.int .i64 3)] r220.2).bind fun r224 =>
        (Qext r224.1 0).bind fun v225 =>
        (Qext r224.1 1).bind fun v226 =>
        (Xalloc Tryd.prog 31 r224.2).bind fun r227 =>
        (Xstore Tryd.prog 31 r227.1 v225 r227.2).bind fun r228 =>
        (Qload Tryd.prog 31 r227.1 r228.2.drew).bind fun v229 =>
        (guardQ v226 true (QfieldAddr Tryd.prog 31 r227.1 2)).bind fun v230 =>
        (guardQ v226 true (Qload Tryd.prog 3 v230 r228.2.drew)).bind fun v231 =>
        (guardQ v226 true (QindexAddr Tryd.prog 22 (gv (isB v226 true) x0) v231 r228.2.drew)).bind fun v232 =>
        (guardQ v226 true (Qload Tryd.prog 5 v232 r228.2.drew)).bind fun v233 =>
        (guardQ v226 true (Qbin Tryd.prog .eql 5 v233 (Value.int .u8 41))).bind fun v234 =>
        (Qpick v226 v234 (Value.bool false)).bind fun v235 =>
        (Xcall Tryd.prog (Value.func (Fn.func 29) #[] #[]) #[v229, v235] r228.2.drew).bind fun r236 =>
        (Qext r236.1 0).bind fun v237 =>
        (Qext r236.1 1).bind fun v238 =>
        (Xstore Tryd.prog 31 r160.1 v237 r236.2).bind fun r239 =>
        chkK True (
          ((((Qload Tryd.prog 31 r160.1 r239.2).bind fun v => ((((some [])).map fun vs => v238 :: vs)).map fun vs => v :: vs)).map oneOf).map fun v => (v, r239.2)
        )
      ) (
        (Xcall Tryd.prog (Value.func (Fn.func 27) #[] #[]) #[x0, (Value.int .i64 0), (Value.string { data := #[50, 50, 57, 32] })] r220.2).bind fun r240 =>
        (guardQ r240.1 true (Qbin Tryd.prog .geq 3 (gv (isB r240.1 true) r219.1) (Value.int .i64 4))).bind fun v241 =>
        (Qpick r240.1 v241 (Value.bool false)).bind fun v242 =>
        (guardX v242 true r240.2 (Xcall Tryd.prog (Value.func (Fn.func 27) #[] #[]) #[(gv (isB v242 true) x0), (gv (isB v242 true) r219.1), (Value.string { data := #[40, 124, 124, 124] })] r240.2)).bind fun r243 =>
        (Qpick v242 r243.1 (Value.bool false)).bind fun v244 =>
        condK v244 (
          (Qbin Tryd.prog .add 3 r219.1 (Value.int .i64 4)).bind fun v245 =>
          (Xcall Tryd.prog (Value.func (Fn.func 31) #[] #[]) #[x0, v245, (Value.int .i64 65535)] r243.2).bind fun r246 =>
          (Qext r246.1 0).bind fun v247 =>
          (Qext r246.1 1).bind fun v248 =>
          (Qext r246.1 2).bind fun v249 =>
          (Qbin Tryd.prog .add 3 r219.1 (Value.int .i64 4)).bind fun v250 =>
          (Qconv Tryd.prog 3 25 v247).bind fun v251 =>
          (Qbuild Tryd.prog 31 #[(0, (Value.int .i64 4)), (1, v250), (2, v248), (3, (Value.int .u32 0)), (4, v251)] r246.2).bind fun v252 =>
          (guardQ v249 true (Qbin Tryd.prog .gtr 3 (gv (isB v249 true) v247) (Value.int .i64 0))).bind fun v253 =>
          (Qpick v249 v253 (Value.bool false)).bind fun v254 =>
          (guardX v254 true r246.2 (Xcall Tryd.prog (Value.func (Fn.func 27) #[] #[]) #[(gv (isB v254 true) x0), (gv (isB v254 true) v248), (Value.string { data := #[124, 41] })] r246.2)).bind fun r255 =>
          (Qpick v254 r255.1 (Value.bool false)).bind fun v256 =>
          (Xcall Tryd.prog (Value.func (Fn.func 29) #[] #[]) #[v252, v256] r255.2).bind fun r257 =>
          (Qext r257.1 0).bind fun v258 =>
          (Qext r257.1 1).bind fun v259 =>
          (Xstore Tryd.prog 31 r160.1 v258 r257.2).bind fun r260 =>
          ((((Qload Tryd.prog 31 r160.1 r260.2).bind fun v => ((((some [])).map fun vs => v259 :: vs)).map fun vs => v :: vs)).map oneOf).map fun v => (v, r260.2)
        ) (
          (Qbuild Tryd.prog 31 #[] r243.2).bind fun v261 =>
          (Xstore Tryd.prog 31 r160.1 v261 r243.2).bind fun r262 =>
          ((((Qload Tryd.prog 31 r160.1 r262.2).bind fun v => ((((some [])).map fun vs => (Value.bool false) :: vs)).map fun vs => v :: vs)).map oneOf).map fun v => (v, r262.2)
        )
      )
    )
  )
theorem s11eq (x0 x1 : Value) (w : World) : evK Tryd.prog 11 none (bodyOf Tryd.f11) none _ { tmps := (([x0, x1] : List Value) ++ List.replicate (169 - 2) undef).toArray, defers := [] } w (leaveK Tryd.prog Tryd.f11) = s11 x0 x1 w := by kernel_rfl
set_option maxRecDepth 100000 in
theorem c11 {x0 x1 : Value} {w : World} {r : Value × World} (h : s11 x0 x1 w = some r) : C Tryd.prog 11 #[x0, x1] w = some r :=
  C_ev follows_all drawLaw (by kernel_rfl) Tryd.func11 (by rfl) ((s11eq x0 x1 w).trans h)
theorem e11 {x0 x1 : Value} {w : World} {Q : Value × World → Prop} (h : Brings (s11 x0 x1 w) Q) : Brings (Xcall Tryd.prog (Value.func (Fn.func 11) #[] #[]) #[x0, x1] w) Q :=
  h.call (Xcall_fn Tryd.func11 (by decide +kernel) (by rfl) _ _ _ w) fun _ h => c11 h

/-! lychgate/lychgatelaw13.FtpFinds -/
noncomputable def s3 (x0 x1 : Value) (w : World) : Option (Value × World) :=
  (XbuildSlice Tryd.prog 22 0 #[] w).bind fun r263 =>
  (Xbi Tryd.prog Go.Builtin.append #[22, 22] 22 #[r263.1, x0] r263.2).bind fun r264 =>
  (Xcall Tryd.prog (Value.func (Fn.func 10) #[] #[]) #[r264.1, x1] r264.2).bind fun r265 =>
  (Qext r265.1 0).bind fun v266 =>
  (Qext r265.1 1).bind fun v267 =>
  (Xalloc Tryd.prog 27 r265.2).bind fun r268 =>
  (Xstore Tryd.prog 27 r268.1 v266 r268.2).bind fun r269 =>
  (Xcall Tryd.prog (Value.func (Fn.func 11) #[] #[]) #[x0, x1] r269.2).bind fun r270 =>
  (Qext r270.1 0).bind fun v271 =>
  (Qext r270.1 1).bind fun v272 =>
  (Xalloc Tryd.prog 31 r270.2).bind fun r273 =>
  (Xstore Tryd.prog 31 r273.1 v271 r273.2).bind fun r274 =>
  (Xcall Tryd.prog (Value.func (Fn.func 12) #[] #[]) #[] r274.2).bind fun r275 =>
  (guardQ r275.1 true (Qbin Tryd.prog .eql 4 (gv (isB r275.1 true) v267) (gv (isB r275.1 true) v272))).bind fun v276 =>
  (Qpick r275.1 v276 (Value.bool false)).bind fun v277 =>
  (guardQ v277 true (QfieldAddr Tryd.prog 27 r268.1 0)).bind fun v278 =>
  (guardQ v277 true (Qload Tryd.prog 23 v278 r275.2)).bind fun v279 =>
  (guardQ v277 true (QfieldAddr Tryd.prog 31 r273.1 0)).bind fun v280 =>
  (guardQ v277 true (Qload Tryd.prog 3 v280 r275.2)).bind fun v281 =>
  (guardQ v277 true (Qbin Tryd.prog .eql 3 v279 v281)).bind fun v282 =>
  (Qpick v277 v282 (Value.bool false)).bind fun v283 =>
  (guardQ v283 true (QfieldAddr Tryd.prog 27 r268.1 1)).bind fun v284 =>
  (guardQ v283 true (Qload Tryd.prog 3 v284 r275.2)).bind fun v285 =>
  (guardQ v283 true (QfieldAddr Tryd.prog 31 r273.1 1)).bind fun v286 =>
  (guardQ v283 true (Qload Tryd.prog 3 v286 r275.2)).bind fun v287 =>
  (guardQ v283 true (Qbin Tryd.prog .eql 3 v285 v287)).bind fun v288 =>
  (Qpick v283 v288 (Value.bool false)).bind fun v289 =>
  (guardQ v289 true (QfieldAddr Tryd.prog 27 r268.1 2)).bind fun v290 =>
  (guardQ v289 true (Qload Tryd.prog 3 v290 r275.2)).bind fun v291 =>
  (guardQ v289 true (QfieldAddr Tryd.prog 31 r273.1 2)).bind fun v292 =>
  (guardQ v289 true (Qload Tryd.prog 3 v292 r275.2)).bind fun v293 =>
  (guardQ v289 true (Qbin Tryd.prog .eql 3 v291 v293)).bind fun v294 =>
  (Qpick v289 v294 (Value.bool false)).bind fun v295 =>
  (guardQ v295 true (QfieldAddr Tryd.prog 27 r268.1 3)).bind fun v296 =>
  (guardQ v295 true (Qload Tryd.prog 24 v296 r275.2)).bind fun v297 =>
  (guardQ v295 true (QfieldAddr Tryd.prog 31 r273.1 3)).bind fun v298 =>
  (guardQ v295 true (Qload Tryd.prog 24 v298 r275.2)).bind fun v299 =>
  (guardQ v295 true (Qbin Tryd.prog .eql 24 v297 v299)).bind fun v300 =>
  (Qpick v295 v300 (Value.bool false)).bind fun v301 =>
  (guardQ v301 true (QfieldAddr Tryd.prog 27 r268.1 4)).bind fun v302 =>
  (guardQ v301 true (Qload Tryd.prog 25 v302 r275.2)).bind fun v303 =>
  (guardQ v301 true (QfieldAddr Tryd.prog 31 r273.1 4)).bind fun v304 =>
  (guardQ v301 true (Qload Tryd.prog 25 v304 r275.2)).bind fun v305 =>
  (guardQ v301 true (Qbin Tryd.prog .eql 25 v303 v305)).bind fun v306 =>
  (Qpick v301 v306 (Value.bool false)).bind fun v307 =>
  (guardX v307 true r275.2 (Xconv Tryd.prog 22 9 (gv (isB v307 true) r264.1) r275.2)).bind fun r308 =>
  (guardX v307 true r308.2 (Xconv Tryd.prog 22 9 (gv (isB v307 true) x0) r308.2)).bind fun r309 =>
  (guardQ v307 true (Qbin Tryd.prog .eql 9 r308.1 r309.1)).bind fun v310 =>
  (Qpick v307 v310 (Value.bool false)).bind fun v311 =>
  some (v311, r309.2)
theorem s3eq (x0 x1 : Value) (w : World) : evK Tryd.prog 3 none (bodyOf Tryd.f3) none _ { tmps := (([x0, x1] : List Value) ++ List.replicate (73 - 2) undef).toArray, defers := [] } w (leaveK Tryd.prog Tryd.f3) = s3 x0 x1 w := by kernel_rfl
set_option maxRecDepth 100000 in
theorem c3 {x0 x1 : Value} {w : World} {r : Value × World} (h : s3 x0 x1 w = some r) : C Tryd.prog 3 #[x0, x1] w = some r :=
  C_ev follows_all drawLaw (by kernel_rfl) Tryd.func3 (by rfl) ((s3eq x0 x1 w).trans h)
theorem e3 {x0 x1 : Value} {w : World} {Q : Value × World → Prop} (h : Brings (s3 x0 x1 w) Q) : Brings (Xcall Tryd.prog (Value.func (Fn.func 3) #[] #[]) #[x0, x1] w) Q :=
  h.call (Xcall_fn Tryd.func3 (by decide +kernel) (by rfl) _ _ _ w) fun _ h => c3 h

end Go.Proofs.YtphokckbcmiddaaDoor
