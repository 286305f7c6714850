/- The functions of the program, by their texts. -/
import Derived.Test.YtcibkmahibnjeaaFa
import Derived.Test.YtcibkmahibnjeaaProg
import Derived.KernelRfl
namespace Go.Proofs.Ytcibkmahibnjeaa
open Go Go.Ev
open Go.Proofs
theorem follows_all : Try.prog.follows .mixedOrders = true := by kernel_rfl
theorem seqK_n {β : Type} (F : Act → World → Option β) (K : Exit → Act → World → Option β) (a : Act) (w : World) : seqK F K .normal a w = F a w := rfl
/-! lychgate/lychgatelaw06.TableDue -/
noncomputable def s3K0 : Exit → Act → World → Option (Value × World) := seqK (fun a w => evK Try.prog 3 none (nav [1, 1, 1, 1, 1] (bodyOf Try.f3)) none _ a w (leaveK Try.prog Try.f3)) (leaveK Try.prog Try.f3)
noncomputable def s3J0 (s : List Value) (d : List Deferred) (w : World) : Option (Value × World) := s3K0 .normal ⟨s.toArray, d⟩ w
noncomputable def s3K1 : Exit → Act → World → Option (Value × World) := seqK (fun a w => evK Try.prog 3 none (nav [1, 1, 1, 1, 1, 1, 1, 1, 1] (bodyOf Try.f3)) none _ a w (leaveK Try.prog Try.f3)) (leaveK Try.prog Try.f3)
noncomputable def s3K2 : Exit → Act → World → Option (Value × World) := blockK 0 s3K1
noncomputable def s3L1 (s : List Value) (d : List Deferred) (w : World) : Option (Value × World) := loopN Try.prog 3 none (nav [1, 1, 1, 1, 1, 1, 1, 1, 0, 1, 0, 0] (bodyOf Try.f3)) s3K2 s d w
noncomputable def s3B1 : List Value → World → Option (Exit × List Value × World)
  | [x6, x7, x10, x11, x12, x13, x14, x15], w =>
    (Qlen Try.prog #[30] 3 #[x13] w).bind fun v27 =>
    (Qbin Try.prog Go.BinOp.lss 3 x15 v27).bind fun v28 =>
    condK v28 (
      (QindexAddr Try.prog 30 x13 x15 w).bind fun v29 =>
      (Qload Try.prog 37 v29 w).bind fun v30 =>
      (Xcall Try.prog (Value.func (Fn.func 15) #[] #[]) #[x7, v30] w).bind fun r31 =>
      (Qext r31.1 0).bind fun _ =>
      (Qext r31.1 1).bind fun v33 =>
      (Qext r31.1 2).bind fun v34 =>
      (Qun Go.UnOp.not v34).bind fun v35 =>
      (guardQ v35 false (Qbin Try.prog Go.BinOp.gtr 3 (gv (isB v35 false) v33) (gv (isB v35 false) x11))).bind fun v36 =>
      (Qpick v35 (Go.Value.bool true) v36).bind fun v37 =>
      (guardQ v37 false (Qbin Try.prog Go.BinOp.lss 3 (gv (isB v37 false) v33) (gv (isB v37 false) x14))).bind fun v38 =>
      (Qpick v37 (Go.Value.bool true) v38).bind fun v39 =>
      (guardQ v39 false (Qbin Try.prog Go.BinOp.leq 3 (gv (isB v39 false) v33) (gv (isB v39 false) x10))).bind fun v40 =>
      (guardQ v39 false (Qlen Try.prog #[30] 3 #[(gv (isB v39 false) x12)] r31.2)).bind fun v41 =>
      (guardQ v39 false (Qbin Try.prog Go.BinOp.lss 3 (gv (isB v39 false) x15) v41)).bind fun v42 =>
      (guardQ v39 false (Qbin Try.prog Go.BinOp.neq 4 v40 v42)).bind fun v43 =>
      (Qpick v39 (Go.Value.bool true) v43).bind fun v44 =>
      condK v44 (
        some (Exit.ret, [(Go.Value.bool false), x7, x10, x11, x12, x13, x14, x15], r31.2)
      ) (
        (Qbin Try.prog Go.BinOp.add 3 x15 (Go.Value.int Go.IntKind.i64 1)).bind fun v45 =>
        some (Exit.normal, [x6, x7, x10, x11, x12, x13, v33, v45], r31.2)
      )
    ) (
      some ((Exit.exit 0), [x6, x7, x10, x11, x12, x13, x14, x15], w)
    )
  | _, _ => none
noncomputable def s3R1 : Exit → List Value → World → Option (Value × World)
  | (Exit.exit 0), [_, _, _, _, _, _, _, _], w =>
    some ((Go.Value.bool true), w)
  | Exit.ret, [x6, _, _, _, _, _, _, _], w =>
    some (x6, w)
  | _, _, _ => none
noncomputable def s3M0raw (s0 s1 s2 s3 s4 s5 s6 s7 s8 s9 s10 s11 _s12 _s13 _s14 _s15 s16 s17 s18 s19 s20 s21 s22 s23 s24 s25 s26 s27 s28 s29 s30 s31 s32 s33 s34 s35 s36 s37 s38 s39 s40 s41 s42 _s43 _s44 _s45 _s46 _s47 _s48 _s49 _s50 _s51 _s52 _s53 _s54 _s55 _s56 _s57 _s58 _s59 _s60 _s61 _s62 s63 s64 s65 s66 s67 s68 s69 s70 s71 s72 s73 s74 s75 s76 s77 s78 s79 s80 s81 s82 s83 s84 s85 s86 s87 s88 s89 s90 s91 s92 s93 s94 s95 s96 s97 s98 s99 s100 s101 : Value) (w : World) : Option (Value × World) :=
  (Xcall Try.prog (Value.func (Fn.func 13) #[] #[]) #[s7, s10] w).bind fun r17 =>
  (Xcall Try.prog (Value.func (Fn.func 13) #[] #[]) #[s7, s11] r17.2).bind fun r18 =>
  (Qlen Try.prog #[30] 3 #[r17.1] r18.2).bind fun v19 =>
  (Qlen Try.prog #[30] 3 #[r18.1] r18.2).bind fun v20 =>
  (Qbin Try.prog Go.BinOp.gtr 3 v19 v20).bind fun v21 =>
  (guardQ v21 false (Qlen Try.prog #[30] 3 #[(gv (isB v21 false) r17.1)] r18.2)).bind fun v22 =>
  (guardQ v21 false (Qslice Try.prog 30 (gv (isB v21 false) r18.1) none (some v22) none r18.2)).bind fun v23 =>
  (guardX v21 false r18.2 (Xcall Try.prog (Value.func (Fn.func 14) #[] #[]) #[(gv (isB v21 false) r17.1), v23] r18.2)).bind fun r24 =>
  (guardQ v21 false (Qun Go.UnOp.not r24.1)).bind fun v25 =>
  (Qpick v21 (Go.Value.bool true) v25).bind fun v26 =>
  condK v26 (
    some ((Go.Value.bool false), r24.2)
  ) (
    s3L1 [s0, s1, s2, s3, s4, s5, s6, s7, s8, s9, s10, s11, r17.1, r18.1, (Go.Value.int Go.IntKind.i64 (-1)), (Go.Value.int Go.IntKind.i64 0), s16, s17, s18, s19, s20, s21, s22, s23, s24, s25, s26, s27, s28, s29, s30, s31, s32, s33, s34, s35, s36, s37, s38, s39, s40, s41, s42, s7, s10, r17.1, s7, s11, r18.1, r17.1, v19, r18.1, v20, v21, v21, (gv (isB v21 false) r17.1), (gv (isB v21 false) r18.1), (gv (isB v21 false) r17.1), v22, v23, r24.1, v25, v26, s63, s64, s65, s66, s67, s68, s69, s70, s71, s72, s73, s74, s75, s76, s77, s78, s79, s80, s81, s82, s83, s84, s85, s86, s87, s88, s89, s90, s91, s92, s93, s94, s95, s96, s97, s98, s99, s100, s101] [] r24.2
  )
noncomputable def s3M0 (s6 s7 s10 s11 : Value) (w : World) : Option (Value × World) :=
  (Xcall Try.prog (Value.func (Fn.func 13) #[] #[]) #[s7, s10] w).bind fun r17 =>
  (Xcall Try.prog (Value.func (Fn.func 13) #[] #[]) #[s7, s11] r17.2).bind fun r18 =>
  (Qlen Try.prog #[30] 3 #[r17.1] r18.2).bind fun v19 =>
  (Qlen Try.prog #[30] 3 #[r18.1] r18.2).bind fun v20 =>
  (Qbin Try.prog Go.BinOp.gtr 3 v19 v20).bind fun v21 =>
  (guardQ v21 false (Qlen Try.prog #[30] 3 #[(gv (isB v21 false) r17.1)] r18.2)).bind fun v22 =>
  (guardQ v21 false (Qslice Try.prog 30 (gv (isB v21 false) r18.1) none (some v22) none r18.2)).bind fun v23 =>
  (guardX v21 false r18.2 (Xcall Try.prog (Value.func (Fn.func 14) #[] #[]) #[(gv (isB v21 false) r17.1), v23] r18.2)).bind fun r24 =>
  (guardQ v21 false (Qun Go.UnOp.not r24.1)).bind fun v25 =>
  (Qpick v21 (Go.Value.bool true) v25).bind fun v26 =>
  condK v26 (
    some ((Go.Value.bool false), r24.2)
  ) (
    loopR s3B1 s3R1 [s6, s7, s10, s11, r17.1, r18.1, (Go.Value.int Go.IntKind.i64 (-1)), (Go.Value.int Go.IntKind.i64 0)] r24.2
  )
noncomputable def s3raw (x0 x1 x2 : Value) (w : World) : Option (Value × World) :=
  (Xbox Try.prog 24 x2 w).bind fun r1 =>
  (Xcall Try.prog (Value.func (Fn.func 11) #[] #[]) #[x0, x1] r1.2).bind fun r2 =>
  (Qext r2.1 0).bind fun v3 =>
  (Qext r2.1 1).bind fun v4 =>
  (Qext r2.1 2).bind fun v5 =>
  (Xcall Try.prog (Value.func (Fn.func 12) #[] #[]) #[] r2.2).bind fun r6 =>
  (Qun Go.UnOp.not r6.1).bind fun v7 =>
  (guardQ v7 false (Qun Go.UnOp.not (gv (isB v7 false) v5))).bind fun v8 =>
  (Qpick v7 (Go.Value.bool true) v8).bind fun v9 =>
  condK v9 (
    some ((Go.Value.bool false), r6.2)
  ) (
    (QindexAddr Try.prog 24 r1.1 (Go.Value.int Go.IntKind.i64 0) r6.2.drew).bind fun v10 =>
    (Qload Try.prog 23 v10 r6.2.drew).bind fun v11 =>
    (Qconv Try.prog 23 3 v11).bind fun v12 =>
    (QindexAddr Try.prog 24 r1.1 (Go.Value.int Go.IntKind.i64 1) r6.2.drew).bind fun v13 =>
    (Qload Try.prog 23 v13 r6.2.drew).bind fun v14 =>
    (Qconv Try.prog 23 3 v14).bind fun v15 =>
    chkK True (
      (Qbin Try.prog Go.BinOp.gtr 3 v12 v15).bind fun v16 =>
      condK v16 (
        s3J0 [x0, x1, x2, undef, undef, r1.1, (Go.Value.bool false), v3, v4, v5, v15, v12, undef, undef, undef, undef, undef, undef, undef, r2.1, x0, x1, r2.1, v3, v4, v5, r6.1, v7, v7, (gv (isB v7 false) v5), v8, v9, v10, v11, v12, v13, v14, v15, v12, v15, v16, v15, v12, undef, undef, undef, undef, undef, undef, undef, undef, undef, undef, undef, undef, undef, undef, undef, undef, undef, undef, undef, undef, undef, undef, undef, undef, undef, undef, undef, undef, undef, undef, undef, undef, undef, undef, undef, undef, undef, undef, undef, undef, undef, undef, undef, undef, undef, undef, undef, undef, undef, undef, undef, undef, undef, undef, undef, undef, undef, undef, undef] [] r6.2.drew
      ) (
        s3J0 [x0, x1, x2, undef, undef, r1.1, (Go.Value.bool false), v3, v4, v5, v12, v15, undef, undef, undef, undef, undef, undef, undef, r2.1, x0, x1, r2.1, v3, v4, v5, r6.1, v7, v7, (gv (isB v7 false) v5), v8, v9, v10, v11, v12, v13, v14, v15, v12, v15, v16, undef, undef, undef, undef, undef, undef, undef, undef, undef, undef, undef, undef, undef, undef, undef, undef, undef, undef, undef, undef, undef, undef, undef, undef, undef, undef, undef, undef, undef, undef, undef, undef, undef, undef, undef, undef, undef, undef, undef, undef, undef, undef, undef, undef, undef, undef, undef, undef, undef, undef, undef, undef, undef, undef, undef, undef, undef, undef, undef, undef, undef] [] r6.2.drew
      )
    )
  )
noncomputable def s3 (x0 x1 x2 : Value) (w : World) : Option (Value × World) :=
  (Xbox Try.prog 24 x2 w).bind fun r1 =>
  (Xcall Try.prog (Value.func (Fn.func 11) #[] #[]) #[x0, x1] r1.2).bind fun r2 =>
  (Qext r2.1 0).bind fun v3 =>
  (Qext r2.1 1).bind fun _ =>
  (Qext r2.1 2).bind fun v5 =>
  (Xcall Try.prog (Value.func (Fn.func 12) #[] #[]) #[] r2.2).bind fun r6 =>
  (Qun Go.UnOp.not r6.1).bind fun v7 =>
  (guardQ v7 false (Qun Go.UnOp.not (gv (isB v7 false) v5))).bind fun v8 =>
  (Qpick v7 (Go.Value.bool true) v8).bind fun v9 =>
  condK v9 (
    some ((Go.Value.bool false), r6.2)
  ) (
    (QindexAddr Try.prog 24 r1.1 (Go.Value.int Go.IntKind.i64 0) r6.2.drew).bind fun v10 =>
    (Qload Try.prog 23 v10 r6.2.drew).bind fun v11 =>
    (Qconv Try.prog 23 3 v11).bind fun v12 =>
    (QindexAddr Try.prog 24 r1.1 (Go.Value.int Go.IntKind.i64 1) r6.2.drew).bind fun v13 =>
    (Qload Try.prog 23 v13 r6.2.drew).bind fun v14 =>
    (Qconv Try.prog 23 3 v14).bind fun v15 =>
    chkK True (
      (Qbin Try.prog Go.BinOp.gtr 3 v12 v15).bind fun v16 =>
      condK v16 (
        s3M0 (Go.Value.bool false) v3 v15 v12 r6.2.drew
      ) (
        s3M0 (Go.Value.bool false) v3 v12 v15 r6.2.drew
      )
    )
  )
theorem s3B1eq (x6 x7 x10 x11 x12 x13 x14 x15 : Value) (w : World) (g : Nat → Value) (d : List Deferred) : evK Try.prog 3 none (nav [1, 1, 1, 1, 1, 1, 1, 1, 0, 1, 0, 0] (bodyOf Try.f3)) none _ (frm 102 (setL [6, 7, 10, 11, 12, 13, 14, 15] [x6, x7, x10, x11, x12, x13, x14, x15] g) d) w (projK [6, 7, 10, 11, 12, 13, 14, 15]) = s3B1 [x6, x7, x10, x11, x12, x13, x14, x15] w := by kernel_rfl
theorem s3R1x0eq (x6 x7 x10 x11 x12 x13 x14 x15 : Value) (g : Nat → Value) (w : World) : s3K2 (Exit.exit 0) (frm 102 (setL [6, 7, 10, 11, 12, 13, 14, 15] [x6, x7, x10, x11, x12, x13, x14, x15] g) []) w = s3R1 (Exit.exit 0) [x6, x7, x10, x11, x12, x13, x14, x15] w := by kernel_rfl
theorem s3R1ret_eq (x6 x7 x10 x11 x12 x13 x14 x15 : Value) (g : Nat → Value) (w : World) : s3K2 Exit.ret (frm 102 (setL [6, 7, 10, 11, 12, 13, 14, 15] [x6, x7, x10, x11, x12, x13, x14, x15] g) []) w = s3R1 Exit.ret [x6, x7, x10, x11, x12, x13, x14, x15] w := by kernel_rfl
theorem s3R1of : ∀ (e : Exit) (xs : List Value) (w : World) (g : Nat → Value) (y : _), s3R1 e xs w = some y → s3K2 e (frm 102 (setL [6, 7, 10, 11, 12, 13, 14, 15] xs g) []) w = some y := by
  intro e xs w g y h
  unfold s3R1 at h
  split at h
  · exact (s3R1x0eq _ _ _ _ _ _ _ _ g _).trans h
  · exact (s3R1ret_eq _ _ _ _ _ _ _ _ g _).trans h
  · cases h
set_option maxRecDepth 20000 in
theorem s3L1of {s0 s1 s2 s3 s4 s5 s6 s7 s8 s9 s10 s11 s12 s13 s14 s15 s16 s17 s18 s19 s20 s21 s22 s23 s24 s25 s26 s27 s28 s29 s30 s31 s32 s33 s34 s35 s36 s37 s38 s39 s40 s41 s42 s43 s44 s45 s46 s47 s48 s49 s50 s51 s52 s53 s54 s55 s56 s57 s58 s59 s60 s61 s62 s63 s64 s65 s66 s67 s68 s69 s70 s71 s72 s73 s74 s75 s76 s77 s78 s79 s80 s81 s82 s83 s84 s85 s86 s87 s88 s89 s90 s91 s92 s93 s94 s95 s96 s97 s98 s99 s100 s101 : Value} {w : World} {r : _} (h : loopR s3B1 s3R1 [s6, s7, s10, s11, s12, s13, s14, s15] w = some r) : s3L1 [s0, s1, s2, s3, s4, s5, s6, s7, s8, s9, s10, s11, s12, s13, s14, s15, s16, s17, s18, s19, s20, s21, s22, s23, s24, s25, s26, s27, s28, s29, s30, s31, s32, s33, s34, s35, s36, s37, s38, s39, s40, s41, s42, s43, s44, s45, s46, s47, s48, s49, s50, s51, s52, s53, s54, s55, s56, s57, s58, s59, s60, s61, s62, s63, s64, s65, s66, s67, s68, s69, s70, s71, s72, s73, s74, s75, s76, s77, s78, s79, s80, s81, s82, s83, s84, s85, s86, s87, s88, s89, s90, s91, s92, s93, s94, s95, s96, s97, s98, s99, s100, s101] [] w = some r :=
  loopN_of (B := s3B1) (R := s3R1) (n := 102) (live := [6, 7, 10, 11, 12, 13, 14, 15]) (fun xs w g y hl h => match xs, hl, h with | [x6, x7, x10, x11, x12, x13, x14, x15], _, h => (s3B1eq x6 x7 x10 x11 x12 x13 x14 x15 w g []).trans h) (by kernel_rfl) (s3R1of) (fun i => ([s0, s1, s2, s3, s4, s5, s6, s7, s8, s9, s10, s11, s12, s13, s14, s15, s16, s17, s18, s19, s20, s21, s22, s23, s24, s25, s26, s27, s28, s29, s30, s31, s32, s33, s34, s35, s36, s37, s38, s39, s40, s41, s42, s43, s44, s45, s46, s47, s48, s49, s50, s51, s52, s53, s54, s55, s56, s57, s58, s59, s60, s61, s62, s63, s64, s65, s66, s67, s68, s69, s70, s71, s72, s73, s74, s75, s76, s77, s78, s79, s80, s81, s82, s83, s84, s85, s86, s87, s88, s89, s90, s91, s92, s93, s94, s95, s96, s97, s98, s99, s100, s101] : List Value).getD i undef) (by kernel_rfl) rfl h
theorem s3J0eq (s0 s1 s2 s3 s4 s5 s6 s7 s8 s9 s10 s11 s12 s13 s14 s15 s16 s17 s18 s19 s20 s21 s22 s23 s24 s25 s26 s27 s28 s29 s30 s31 s32 s33 s34 s35 s36 s37 s38 s39 s40 s41 s42 s43 s44 s45 s46 s47 s48 s49 s50 s51 s52 s53 s54 s55 s56 s57 s58 s59 s60 s61 s62 s63 s64 s65 s66 s67 s68 s69 s70 s71 s72 s73 s74 s75 s76 s77 s78 s79 s80 s81 s82 s83 s84 s85 s86 s87 s88 s89 s90 s91 s92 s93 s94 s95 s96 s97 s98 s99 s100 s101 : Value) (w : World) : s3J0 [s0, s1, s2, s3, s4, s5, s6, s7, s8, s9, s10, s11, s12, s13, s14, s15, s16, s17, s18, s19, s20, s21, s22, s23, s24, s25, s26, s27, s28, s29, s30, s31, s32, s33, s34, s35, s36, s37, s38, s39, s40, s41, s42, s43, s44, s45, s46, s47, s48, s49, s50, s51, s52, s53, s54, s55, s56, s57, s58, s59, s60, s61, s62, s63, s64, s65, s66, s67, s68, s69, s70, s71, s72, s73, s74, s75, s76, s77, s78, s79, s80, s81, s82, s83, s84, s85, s86, s87, s88, s89, s90, s91, s92, s93, s94, s95, s96, s97, s98, s99, s100, s101] [] w = s3M0raw s0 s1 s2 s3 s4 s5 s6 s7 s8 s9 s10 s11 s12 s13 s14 s15 s16 s17 s18 s19 s20 s21 s22 s23 s24 s25 s26 s27 s28 s29 s30 s31 s32 s33 s34 s35 s36 s37 s38 s39 s40 s41 s42 s43 s44 s45 s46 s47 s48 s49 s50 s51 s52 s53 s54 s55 s56 s57 s58 s59 s60 s61 s62 s63 s64 s65 s66 s67 s68 s69 s70 s71 s72 s73 s74 s75 s76 s77 s78 s79 s80 s81 s82 s83 s84 s85 s86 s87 s88 s89 s90 s91 s92 s93 s94 s95 s96 s97 s98 s99 s100 s101 w := (show s3J0 [s0, s1, s2, s3, s4, s5, s6, s7, s8, s9, s10, s11, s12, s13, s14, s15, s16, s17, s18, s19, s20, s21, s22, s23, s24, s25, s26, s27, s28, s29, s30, s31, s32, s33, s34, s35, s36, s37, s38, s39, s40, s41, s42, s43, s44, s45, s46, s47, s48, s49, s50, s51, s52, s53, s54, s55, s56, s57, s58, s59, s60, s61, s62, s63, s64, s65, s66, s67, s68, s69, s70, s71, s72, s73, s74, s75, s76, s77, s78, s79, s80, s81, s82, s83, s84, s85, s86, s87, s88, s89, s90, s91, s92, s93, s94, s95, s96, s97, s98, s99, s100, s101] [] w = evK Try.prog 3 none (nav [1, 1, 1, 1, 1] (bodyOf Try.f3)) none _ ⟨[s0, s1, s2, s3, s4, s5, s6, s7, s8, s9, s10, s11, s12, s13, s14, s15, s16, s17, s18, s19, s20, s21, s22, s23, s24, s25, s26, s27, s28, s29, s30, s31, s32, s33, s34, s35, s36, s37, s38, s39, s40, s41, s42, s43, s44, s45, s46, s47, s48, s49, s50, s51, s52, s53, s54, s55, s56, s57, s58, s59, s60, s61, s62, s63, s64, s65, s66, s67, s68, s69, s70, s71, s72, s73, s74, s75, s76, s77, s78, s79, s80, s81, s82, s83, s84, s85, s86, s87, s88, s89, s90, s91, s92, s93, s94, s95, s96, s97, s98, s99, s100, s101].toArray, []⟩ w (leaveK Try.prog Try.f3) from by kernel_rfl).trans (by kernel_rfl)
theorem s3J0of {s0 s1 s2 s3 s4 s5 s6 s7 s8 s9 s10 s11 s12 s13 s14 s15 s16 s17 s18 s19 s20 s21 s22 s23 s24 s25 s26 s27 s28 s29 s30 s31 s32 s33 s34 s35 s36 s37 s38 s39 s40 s41 s42 s43 s44 s45 s46 s47 s48 s49 s50 s51 s52 s53 s54 s55 s56 s57 s58 s59 s60 s61 s62 s63 s64 s65 s66 s67 s68 s69 s70 s71 s72 s73 s74 s75 s76 s77 s78 s79 s80 s81 s82 s83 s84 s85 s86 s87 s88 s89 s90 s91 s92 s93 s94 s95 s96 s97 s98 s99 s100 s101 : Value} {w : World} {r : _} (h : s3M0 s6 s7 s10 s11 w = some r) : s3J0 [s0, s1, s2, s3, s4, s5, s6, s7, s8, s9, s10, s11, s12, s13, s14, s15, s16, s17, s18, s19, s20, s21, s22, s23, s24, s25, s26, s27, s28, s29, s30, s31, s32, s33, s34, s35, s36, s37, s38, s39, s40, s41, s42, s43, s44, s45, s46, s47, s48, s49, s50, s51, s52, s53, s54, s55, s56, s57, s58, s59, s60, s61, s62, s63, s64, s65, s66, s67, s68, s69, s70, s71, s72, s73, s74, s75, s76, s77, s78, s79, s80, s81, s82, s83, s84, s85, s86, s87, s88, s89, s90, s91, s92, s93, s94, s95, s96, s97, s98, s99, s100, s101] [] w = some r :=
  ((s3J0eq s0 s1 s2 s3 s4 s5 s6 s7 s8 s9 s10 s11 s12 s13 s14 s15 s16 s17 s18 s19 s20 s21 s22 s23 s24 s25 s26 s27 s28 s29 s30 s31 s32 s33 s34 s35 s36 s37 s38 s39 s40 s41 s42 s43 s44 s45 s46 s47 s48 s49 s50 s51 s52 s53 s54 s55 s56 s57 s58 s59 s60 s61 s62 s63 s64 s65 s66 s67 s68 s69 s70 s71 s72 s73 s74 s75 s76 s77 s78 s79 s80 s81 s82 s83 s84 s85 s86 s87 s88 s89 s90 s91 s92 s93 s94 s95 s96 s97 s98 s99 s100 s101 w).trans ((Ev.bind_mono fun (r17 : Value × World) => (Ev.bind_mono fun (r18 : Value × World) => (Ev.bind_mono fun (v19 : Value) => (Ev.bind_mono fun (v20 : Value) => (Ev.bind_mono fun (v21 : Value) => (Ev.bind_mono fun (v22 : Value) => (Ev.bind_mono fun (v23 : Value) => (Ev.bind_mono fun (r24 : Value × World) => (Ev.bind_mono fun (v25 : Value) => (Ev.bind_mono fun (v26 : Value) => (condK_mono id (s3L1of)))))))))))) h))
theorem s3eq (x0 x1 x2 : Value) (w : World) : evK Try.prog 3 none (bodyOf Try.f3) none _ { tmps := (([x0, x1, x2] : List Value) ++ List.replicate (102 - 3) undef).toArray, defers := [] } w (leaveK Try.prog Try.f3) = s3raw x0 x1 x2 w := by kernel_rfl
theorem c3 {x0 x1 x2 : Value} {w : World} {r : Value × World} (h : s3 x0 x1 x2 w = some r) : C Try.prog 3 #[x0, x1, x2] w = some r :=
  C_ev follows_all drawLaw (by kernel_rfl) Try.func3 (by rfl) ((s3eq x0 x1 x2 w).trans (show s3raw x0 x1 x2 w = some r from (Ev.bind_mono fun (r1 : Value × World) => (Ev.bind_mono fun (r2 : Value × World) => (Ev.bind_mono fun (v3 : Value) => (Ev.bind_mono fun (v4 : Value) => (Ev.bind_mono fun (v5 : Value) => (Ev.bind_mono fun (r6 : Value × World) => (Ev.bind_mono fun (v7 : Value) => (Ev.bind_mono fun (v8 : Value) => (Ev.bind_mono fun (v9 : Value) => (condK_mono id (Ev.bind_mono fun (v10 : Value) => (Ev.bind_mono fun (v11 : Value) => (Ev.bind_mono fun (v12 : Value) => (Ev.bind_mono fun (v13 : Value) => (Ev.bind_mono fun (v14 : Value) => (Ev.bind_mono fun (v15 : Value) => (chkK_mono (Ev.bind_mono fun (v16 : Value) => (condK_mono (s3J0of) (s3J0of)))))))))))))))))))) h))
theorem e3 {x0 x1 x2 : Value} {w : World} {Q : Value × World → Prop} (h : Brings (s3 x0 x1 x2 w) Q) : Brings (Xcall Try.prog (Value.func (Fn.func 3) #[] #[]) #[x0, x1, x2] w) Q :=
  h.call (Xcall_fn Try.func3 (by decide +kernel) (by rfl) _ _ _ w) fun _ h => c3 h

/-! lychgate/lychgatelaw06.TableLimits -/
noncomputable def s4 (x0 x1 : Value) (w : World) : Option (Value × World) :=
  (Xcall Try.prog (Value.func (Fn.func 11) #[] #[]) #[x0, x1] w).bind fun r46 =>
  (Qext r46.1 0).bind fun v47 =>
  (Qext r46.1 1).bind fun _ =>
  (Qext r46.1 2).bind fun v49 =>
  (Qconv Try.prog 5 3 x0).bind fun v50 =>
  (Qbin Try.prog Go.BinOp.rem 3 v50 (Go.Value.int Go.IntKind.i64 8)).bind fun v51 =>
  (Qbin Try.prog Go.BinOp.add 3 v51 (Go.Value.int Go.IntKind.i64 1)).bind fun v52 =>
  (Xcall Try.prog (Value.func (Fn.func 12) #[] #[]) #[] r46.2).bind fun r53 =>
  (Qun Go.UnOp.not r53.1).bind fun v54 =>
  (guardQ v54 false (Qun Go.UnOp.not (gv (isB v54 false) v49))).bind fun v55 =>
  (Qpick v54 (Go.Value.bool true) v55).bind fun v56 =>
  (guardX v56 false r53.2 (Xcall Try.prog (Value.func (Fn.func 16) #[] #[]) #[(gv (isB v56 false) v47)] r53.2)).bind fun r57 =>
  (guardQ v56 false (Qbin Try.prog Go.BinOp.gtr 3 r57.1 (gv (isB v56 false) v52))).bind fun v58 =>
  (Qpick v56 (Go.Value.bool true) v58).bind fun v59 =>
  (guardX v59 false r57.2 (Xcall Try.prog (Value.func (Fn.func 16) #[] #[]) #[(gv (isB v59 false) v47)] r57.2)).bind fun r60 =>
  (guardX v59 false r60.2 (Xcall Try.prog (Value.func (Fn.func 13) #[] #[]) #[(gv (isB v59 false) v47), (Go.Value.int Go.IntKind.i64 1099511627776)] r60.2)).bind fun r61 =>
  (guardQ v59 false (Qlen Try.prog #[30] 3 #[r61.1] r61.2)).bind fun v62 =>
  (guardQ v59 false (Qbin Try.prog Go.BinOp.neq 3 r60.1 v62)).bind fun v63 =>
  (Qpick v59 (Go.Value.bool true) v63).bind fun v64 =>
  condK v64 (
    some ((Go.Value.bool false), r61.2)
  ) (
    (Qbuild Try.prog 37 #[(0, (Go.Value.int Go.IntKind.u8 255)), (1, (Go.Value.int Go.IntKind.u32 77)), (4, (Go.Value.int Go.IntKind.u16 9))] r61.2).bind fun v65 =>
    (Xalloc Try.prog 37 r61.2).bind fun r66 =>
    (Xstore Try.prog 37 r66.1 v65 r66.2).bind fun r67 =>
    (Qload Try.prog 37 r66.1 r67.2).bind fun v68 =>
    (Xcall Try.prog (Value.func (Fn.func 15) #[] #[]) #[v47, v68] r67.2).bind fun r69 =>
    (Qext r69.1 0).bind fun _ =>
    (Qext r69.1 1).bind fun _ =>
    (Qext r69.1 2).bind fun v72 =>
    (Qload Try.prog 37 r66.1 r69.2).bind fun v73 =>
    (Xcall Try.prog (Value.func (Fn.func 17) #[] #[]) #[v47, v73, (Go.Value.int Go.IntKind.i64 1), (Go.Value.int Go.IntKind.i64 1)] r69.2).bind fun r74 =>
    condK v72 (
      (Qbin Try.prog Go.BinOp.eql 40 r74.1 (Go.Value.int Go.IntKind.i64 10)).bind fun v75 =>
      some (v75, r74.2)
    ) (
      (Qbin Try.prog Go.BinOp.eql 40 r74.1 (Go.Value.int Go.IntKind.i64 0)).bind fun v76 =>
      (guardX v76 true r74.2 (Xcall Try.prog (Value.func (Fn.func 16) #[] #[]) #[(gv (isB v76 true) v47)] r74.2)).bind fun r77 =>
      (guardQ v76 true (Qbin Try.prog Go.BinOp.leq 3 r77.1 (gv (isB v76 true) v52))).bind fun v78 =>
      (Qpick v76 v78 (Go.Value.bool false)).bind fun v79 =>
      (guardQ v79 false (Qbin Try.prog Go.BinOp.eql 40 (gv (isB v79 false) r74.1) (Go.Value.int Go.IntKind.i64 9))).bind fun v80 =>
      (guardX (gv (isB v79 false) v80) true r77.2 (Xcall Try.prog (Value.func (Fn.func 16) #[] #[]) #[(gv (isB (gv (isB v79 false) v80) true) v47)] r77.2)).bind fun r81 =>
      (guardQ (gv (isB v79 false) v80) true (Qbin Try.prog Go.BinOp.eql 3 r81.1 (gv (isB (gv (isB v79 false) v80) true) v52))).bind fun v82 =>
      (guardQ v79 false (Qpick (gv (isB v79 false) v80) v82 (Go.Value.bool false))).bind fun v83 =>
      (Qpick v79 (Go.Value.bool true) v83).bind fun v84 =>
      some (v84, r81.2)
    )
  )
theorem s4eq (x0 x1 : Value) (w : World) : evK Try.prog 4 none (bodyOf Try.f4) none _ { tmps := (([x0, x1] : List Value) ++ List.replicate (77 - 2) undef).toArray, defers := [] } w (leaveK Try.prog Try.f4) = s4 x0 x1 w := by kernel_rfl
theorem c4 {x0 x1 : Value} {w : World} {r : Value × World} (h : s4 x0 x1 w = some r) : C Try.prog 4 #[x0, x1] w = some r :=
  C_ev follows_all drawLaw (by kernel_rfl) Try.func4 (by rfl) ((s4eq x0 x1 w).trans h)
theorem e4 {x0 x1 : Value} {w : World} {Q : Value × World → Prop} (h : Brings (s4 x0 x1 w) Q) : Brings (Xcall Try.prog (Value.func (Fn.func 4) #[] #[]) #[x0, x1] w) Q :=
  h.call (Xcall_fn Try.func4 (by decide +kernel) (by rfl) _ _ _ w) fun _ h => c4 h

/-! lychgate/lychgatelaw06.TableKeys -/
noncomputable def s5K0 : Exit → Act → World → Option (Value × World) := seqK (fun a w => evK Try.prog 5 none (nav [1, 1, 1, 1, 1] (bodyOf Try.f5)) none _ a w (leaveK Try.prog Try.f5)) (leaveK Try.prog Try.f5)
noncomputable def s5J0 (s : List Value) (d : List Deferred) (w : World) : Option (Value × World) := s5K0 .normal ⟨s.toArray, d⟩ w
noncomputable def s5M0 (s5 s7 s10 : Value) (w : World) : Option (Value × World) :=
  (QfieldAddr Try.prog 44 s5 1).bind fun v106 =>
  (Qload Try.prog 37 v106 w).bind fun v107 =>
  (Xcall Try.prog (Value.func (Fn.func 15) #[] #[]) #[s7, v107] w).bind fun r108 =>
  (Qext r108.1 0).bind fun v109 =>
  (Qext r108.1 1).bind fun v110 =>
  (Qext r108.1 2).bind fun v111 =>
  (Qload Try.prog 37 s10 r108.2).bind fun v112 =>
  (Xcall Try.prog (Value.func (Fn.func 15) #[] #[]) #[s7, v112] r108.2).bind fun r113 =>
  (Qext r113.1 0).bind fun v114 =>
  (Qext r113.1 1).bind fun v115 =>
  (Qext r113.1 2).bind fun v116 =>
  (QfieldAddr Try.prog 44 s5 1).bind fun v117 =>
  (Qload Try.prog 37 v117 r113.2).bind fun v118 =>
  (Xcall Try.prog (Value.func (Fn.func 18) #[] #[]) #[v118] r113.2).bind fun r119 =>
  (Xcall Try.prog (Value.func (Fn.func 15) #[] #[]) #[s7, r119.1] r119.2).bind fun r120 =>
  (Qext r120.1 0).bind fun v121 =>
  (Qext r120.1 1).bind fun v122 =>
  (Qext r120.1 2).bind fun v123 =>
  (Qbin Try.prog Go.BinOp.eql 3 v109 v114).bind fun v124 =>
  (guardQ v124 true (Qbin Try.prog Go.BinOp.eql 3 (gv (isB v124 true) v110) (gv (isB v124 true) v115))).bind fun v125 =>
  (Qpick v124 v125 (Go.Value.bool false)).bind fun v126 =>
  (guardQ v126 true (Qbin Try.prog Go.BinOp.eql 4 (gv (isB v126 true) v111) (gv (isB v126 true) v116))).bind fun v127 =>
  (Qpick v126 v127 (Go.Value.bool false)).bind fun v128 =>
  (guardQ v128 true (Qbin Try.prog Go.BinOp.eql 3 (gv (isB v128 true) v109) (gv (isB v128 true) v121))).bind fun v129 =>
  (Qpick v128 v129 (Go.Value.bool false)).bind fun v130 =>
  (guardQ v130 true (Qbin Try.prog Go.BinOp.eql 3 (gv (isB v130 true) v110) (gv (isB v130 true) v122))).bind fun v131 =>
  (Qpick v130 v131 (Go.Value.bool false)).bind fun v132 =>
  (guardQ v132 true (Qbin Try.prog Go.BinOp.eql 4 (gv (isB v132 true) v111) (gv (isB v132 true) v123))).bind fun v133 =>
  (Qpick v132 v133 (Go.Value.bool false)).bind fun v134 =>
  some (v134, r120.2)
noncomputable def s5raw (x0 x1 x2 : Value) (w : World) : Option (Value × World) :=
  (Xbox Try.prog 44 x2 w).bind fun r85 =>
  (Xcall Try.prog (Value.func (Fn.func 11) #[] #[]) #[x0, x1] r85.2).bind fun r86 =>
  (Qext r86.1 0).bind fun v87 =>
  (Qext r86.1 1).bind fun v88 =>
  (Qext r86.1 2).bind fun v89 =>
  (Xcall Try.prog (Value.func (Fn.func 12) #[] #[]) #[] r86.2).bind fun r90 =>
  (Qun Go.UnOp.not r90.1).bind fun v91 =>
  (guardQ v91 false (Qun Go.UnOp.not (gv (isB v91 false) v89))).bind fun v92 =>
  (Qpick v91 (Go.Value.bool true) v92).bind fun v93 =>
  condK v93 (
    some ((Go.Value.bool false), r90.2)
  ) (
    (QfieldAddr Try.prog 44 r85.1 1).bind fun v94 =>
    (Qload Try.prog 37 v94 r90.2).bind fun v95 =>
    (Xalloc Try.prog 37 r90.2).bind fun r96 =>
    (Xstore Try.prog 37 r96.1 v95 r96.2).bind fun r97 =>
    (QfieldAddr Try.prog 37 r96.1 0).bind fun v98 =>
    (Qload Try.prog 5 v98 r97.2).bind fun v99 =>
    (Qbin Try.prog Go.BinOp.eql 5 v99 (Go.Value.int Go.IntKind.u8 47)).bind fun v100 =>
    condK v100 (
      (QfieldAddr Try.prog 37 r96.1 3).bind fun v101 =>
      (Qload Try.prog 23 v101 r97.2).bind fun v102 =>
      (Qbin Try.prog Go.BinOp.xor 23 v102 (Go.Value.int Go.IntKind.u16 1)).bind fun v103 =>
      (QfieldAddr Try.prog 37 r96.1 3).bind fun v104 =>
      (Xstore Try.prog 23 v104 v103 r97.2).bind fun r105 =>
      s5J0 [x0, x1, x2, undef, undef, r85.1, (Go.Value.bool false), v87, v88, v89, r96.1, undef, undef, undef, undef, undef, undef, undef, undef, undef, r86.1, x0, x1, r86.1, v87, v88, v89, r90.1, v91, v91, (gv (isB v91 false) v89), v92, v93, v94, v95, v98, v99, v100, v101, v102, v103, v104, undef, undef, undef, undef, undef, undef, undef, undef, undef, undef, undef, undef, undef, undef, undef, undef, undef, undef, undef, undef, undef, undef, undef, undef, undef, undef, undef, undef, undef, undef, undef, undef, undef, undef, undef, undef, undef, undef, undef, undef, undef, undef, undef, undef, undef, undef, undef, undef, undef, undef, undef, undef] [] r105.2
    ) (
      s5J0 [x0, x1, x2, undef, undef, r85.1, (Go.Value.bool false), v87, v88, v89, r96.1, undef, undef, undef, undef, undef, undef, undef, undef, undef, r86.1, x0, x1, r86.1, v87, v88, v89, r90.1, v91, v91, (gv (isB v91 false) v89), v92, v93, v94, v95, v98, v99, v100, undef, undef, undef, undef, undef, undef, undef, undef, undef, undef, undef, undef, undef, undef, undef, undef, undef, undef, undef, undef, undef, undef, undef, undef, undef, undef, undef, undef, undef, undef, undef, undef, undef, undef, undef, undef, undef, undef, undef, undef, undef, undef, undef, undef, undef, undef, undef, undef, undef, undef, undef, undef, undef, undef, undef, undef] [] r97.2
    )
  )
noncomputable def s5 (x0 x1 x2 : Value) (w : World) : Option (Value × World) :=
  (Xbox Try.prog 44 x2 w).bind fun r85 =>
  (Xcall Try.prog (Value.func (Fn.func 11) #[] #[]) #[x0, x1] r85.2).bind fun r86 =>
  (Qext r86.1 0).bind fun v87 =>
  (Qext r86.1 1).bind fun _ =>
  (Qext r86.1 2).bind fun v89 =>
  (Xcall Try.prog (Value.func (Fn.func 12) #[] #[]) #[] r86.2).bind fun r90 =>
  (Qun Go.UnOp.not r90.1).bind fun v91 =>
  (guardQ v91 false (Qun Go.UnOp.not (gv (isB v91 false) v89))).bind fun v92 =>
  (Qpick v91 (Go.Value.bool true) v92).bind fun v93 =>
  condK v93 (
    some ((Go.Value.bool false), r90.2)
  ) (
    (QfieldAddr Try.prog 44 r85.1 1).bind fun v94 =>
    (Qload Try.prog 37 v94 r90.2).bind fun v95 =>
    (Xalloc Try.prog 37 r90.2).bind fun r96 =>
    (Xstore Try.prog 37 r96.1 v95 r96.2).bind fun r97 =>
    (QfieldAddr Try.prog 37 r96.1 0).bind fun v98 =>
    (Qload Try.prog 5 v98 r97.2).bind fun v99 =>
    (Qbin Try.prog Go.BinOp.eql 5 v99 (Go.Value.int Go.IntKind.u8 47)).bind fun v100 =>
    condK v100 (
      (QfieldAddr Try.prog 37 r96.1 3).bind fun v101 =>
      (Qload Try.prog 23 v101 r97.2).bind fun v102 =>
      (Qbin Try.prog Go.BinOp.xor 23 v102 (Go.Value.int Go.IntKind.u16 1)).bind fun v103 =>
      (QfieldAddr Try.prog 37 r96.1 3).bind fun v104 =>
      (Xstore Try.prog 23 v104 v103 r97.2).bind fun r105 =>
      s5M0 r85.1 v87 r96.1 r105.2
    ) (
      s5M0 r85.1 v87 r96.1 r97.2
    )
  )
theorem s5J0eq (s0 s1 s2 s3 s4 s5 s6 s7 s8 s9 s10 s11 s12 s13 s14 s15 s16 s17 s18 s19 s20 s21 s22 s23 s24 s25 s26 s27 s28 s29 s30 s31 s32 s33 s34 s35 s36 s37 s38 s39 s40 s41 s42 s43 s44 s45 s46 s47 s48 s49 s50 s51 s52 s53 s54 s55 s56 s57 s58 s59 s60 s61 s62 s63 s64 s65 s66 s67 s68 s69 s70 s71 s72 s73 s74 s75 s76 s77 s78 s79 s80 s81 s82 s83 s84 s85 s86 s87 s88 s89 s90 s91 s92 s93 : Value) (w : World) : s5J0 [s0, s1, s2, s3, s4, s5, s6, s7, s8, s9, s10, s11, s12, s13, s14, s15, s16, s17, s18, s19, s20, s21, s22, s23, s24, s25, s26, s27, s28, s29, s30, s31, s32, s33, s34, s35, s36, s37, s38, s39, s40, s41, s42, s43, s44, s45, s46, s47, s48, s49, s50, s51, s52, s53, s54, s55, s56, s57, s58, s59, s60, s61, s62, s63, s64, s65, s66, s67, s68, s69, s70, s71, s72, s73, s74, s75, s76, s77, s78, s79, s80, s81, s82, s83, s84, s85, s86, s87, s88, s89, s90, s91, s92, s93] [] w = s5M0 s5 s7 s10 w := (show s5J0 [s0, s1, s2, s3, s4, s5, s6, s7, s8, s9, s10, s11, s12, s13, s14, s15, s16, s17, s18, s19, s20, s21, s22, s23, s24, s25, s26, s27, s28, s29, s30, s31, s32, s33, s34, s35, s36, s37, s38, s39, s40, s41, s42, s43, s44, s45, s46, s47, s48, s49, s50, s51, s52, s53, s54, s55, s56, s57, s58, s59, s60, s61, s62, s63, s64, s65, s66, s67, s68, s69, s70, s71, s72, s73, s74, s75, s76, s77, s78, s79, s80, s81, s82, s83, s84, s85, s86, s87, s88, s89, s90, s91, s92, s93] [] w = evK Try.prog 5 none (nav [1, 1, 1, 1, 1] (bodyOf Try.f5)) none _ ⟨[s0, s1, s2, s3, s4, s5, s6, s7, s8, s9, s10, s11, s12, s13, s14, s15, s16, s17, s18, s19, s20, s21, s22, s23, s24, s25, s26, s27, s28, s29, s30, s31, s32, s33, s34, s35, s36, s37, s38, s39, s40, s41, s42, s43, s44, s45, s46, s47, s48, s49, s50, s51, s52, s53, s54, s55, s56, s57, s58, s59, s60, s61, s62, s63, s64, s65, s66, s67, s68, s69, s70, s71, s72, s73, s74, s75, s76, s77, s78, s79, s80, s81, s82, s83, s84, s85, s86, s87, s88, s89, s90, s91, s92, s93].toArray, []⟩ w (leaveK Try.prog Try.f5) from by kernel_rfl).trans (by kernel_rfl)
theorem s5J0of {s0 s1 s2 s3 s4 s5 s6 s7 s8 s9 s10 s11 s12 s13 s14 s15 s16 s17 s18 s19 s20 s21 s22 s23 s24 s25 s26 s27 s28 s29 s30 s31 s32 s33 s34 s35 s36 s37 s38 s39 s40 s41 s42 s43 s44 s45 s46 s47 s48 s49 s50 s51 s52 s53 s54 s55 s56 s57 s58 s59 s60 s61 s62 s63 s64 s65 s66 s67 s68 s69 s70 s71 s72 s73 s74 s75 s76 s77 s78 s79 s80 s81 s82 s83 s84 s85 s86 s87 s88 s89 s90 s91 s92 s93 : Value} {w : World} {r : _} (h : s5M0 s5 s7 s10 w = some r) : s5J0 [s0, s1, s2, s3, s4, s5, s6, s7, s8, s9, s10, s11, s12, s13, s14, s15, s16, s17, s18, s19, s20, s21, s22, s23, s24, s25, s26, s27, s28, s29, s30, s31, s32, s33, s34, s35, s36, s37, s38, s39, s40, s41, s42, s43, s44, s45, s46, s47, s48, s49, s50, s51, s52, s53, s54, s55, s56, s57, s58, s59, s60, s61, s62, s63, s64, s65, s66, s67, s68, s69, s70, s71, s72, s73, s74, s75, s76, s77, s78, s79, s80, s81, s82, s83, s84, s85, s86, s87, s88, s89, s90, s91, s92, s93] [] w = some r :=
  ((s5J0eq s0 s1 s2 s3 s4 s5 s6 s7 s8 s9 s10 s11 s12 s13 s14 s15 s16 s17 s18 s19 s20 s21 s22 s23 s24 s25 s26 s27 s28 s29 s30 s31 s32 s33 s34 s35 s36 s37 s38 s39 s40 s41 s42 s43 s44 s45 s46 s47 s48 s49 s50 s51 s52 s53 s54 s55 s56 s57 s58 s59 s60 s61 s62 s63 s64 s65 s66 s67 s68 s69 s70 s71 s72 s73 s74 s75 s76 s77 s78 s79 s80 s81 s82 s83 s84 s85 s86 s87 s88 s89 s90 s91 s92 s93 w).trans h)
theorem s5eq (x0 x1 x2 : Value) (w : World) : evK Try.prog 5 none (bodyOf Try.f5) none _ { tmps := (([x0, x1, x2] : List Value) ++ List.replicate (94 - 3) undef).toArray, defers := [] } w (leaveK Try.prog Try.f5) = s5raw x0 x1 x2 w := by kernel_rfl
theorem c5 {x0 x1 x2 : Value} {w : World} {r : Value × World} (h : s5 x0 x1 x2 w = some r) : C Try.prog 5 #[x0, x1, x2] w = some r :=
  C_ev follows_all drawLaw (by kernel_rfl) Try.func5 (by rfl) ((s5eq x0 x1 x2 w).trans (show s5raw x0 x1 x2 w = some r from (Ev.bind_mono fun (r85 : Value × World) => (Ev.bind_mono fun (r86 : Value × World) => (Ev.bind_mono fun (v87 : Value) => (Ev.bind_mono fun (v88 : Value) => (Ev.bind_mono fun (v89 : Value) => (Ev.bind_mono fun (r90 : Value × World) => (Ev.bind_mono fun (v91 : Value) => (Ev.bind_mono fun (v92 : Value) => (Ev.bind_mono fun (v93 : Value) => (condK_mono id (Ev.bind_mono fun (v94 : Value) => (Ev.bind_mono fun (v95 : Value) => (Ev.bind_mono fun (r96 : Value × World) => (Ev.bind_mono fun (r97 : Value × World) => (Ev.bind_mono fun (v98 : Value) => (Ev.bind_mono fun (v99 : Value) => (Ev.bind_mono fun (v100 : Value) => (condK_mono (Ev.bind_mono fun (v101 : Value) => (Ev.bind_mono fun (v102 : Value) => (Ev.bind_mono fun (v103 : Value) => (Ev.bind_mono fun (v104 : Value) => (Ev.bind_mono fun (r105 : Value × World) => (s5J0of)))))) (s5J0of))))))))))))))))))) h))
theorem e5 {x0 x1 x2 : Value} {w : World} {Q : Value × World → Prop} (h : Brings (s5 x0 x1 x2 w) Q) : Brings (Xcall Try.prog (Value.func (Fn.func 5) #[] #[]) #[x0, x1, x2] w) Q :=
  h.call (Xcall_fn Try.func5 (by decide +kernel) (by rfl) _ _ _ w) fun _ h => c5 h

/-! lychgate/lychgatelaw06.TablePlays -/
noncomputable def s6 (x0 x1 x2 : Value) (w : World) : Option (Value × World) :=
  (Xbox Try.prog 44 x2 w).bind fun r135 =>
  (Xcall Try.prog (Value.func (Fn.func 11) #[] #[]) #[x0, x1] r135.2).bind fun r136 =>
  (Qext r136.1 0).bind fun v137 =>
  (Qext r136.1 1).bind fun v138 =>
  (Qext r136.1 2).bind fun v139 =>
  (Xcall Try.prog (Value.func (Fn.func 12) #[] #[]) #[] r136.2).bind fun r140 =>
  (Qpick r140.1 (gv (isB r140.1 true) v139) (Go.Value.bool false)).bind fun v141 =>
  (guardQ v141 true (QfieldAddr Try.prog 44 r135.1 1)).bind fun v142 =>
  (guardQ v141 true (Qload Try.prog 37 v142 r140.2)).bind fun v143 =>
  (guardQ v141 true (QfieldAddr Try.prog 44 r135.1 3)).bind fun v144 =>
  (guardQ v141 true (Qload Try.prog 3 v144 r140.2)).bind fun v145 =>
  (guardX v141 true r140.2 (Xcall Try.prog (Value.func (Fn.func 19) #[] #[]) #[(gv (isB v141 true) v137), (gv (isB v141 true) v138), v143, v145] r140.2)).bind fun r146 =>
  (Qpick v141 r146.1 (Go.Value.bool false)).bind fun v147 =>
  some (v147, r146.2)
theorem s6eq (x0 x1 x2 : Value) (w : World) : evK Try.prog 6 none (bodyOf Try.f6) none _ { tmps := (([x0, x1, x2] : List Value) ++ List.replicate (30 - 3) undef).toArray, defers := [] } w (leaveK Try.prog Try.f6) = s6 x0 x1 x2 w := by kernel_rfl
theorem c6 {x0 x1 x2 : Value} {w : World} {r : Value × World} (h : s6 x0 x1 x2 w = some r) : C Try.prog 6 #[x0, x1, x2] w = some r :=
  C_ev follows_all drawLaw (by kernel_rfl) Try.func6 (by rfl) ((s6eq x0 x1 x2 w).trans h)
theorem e6 {x0 x1 x2 : Value} {w : World} {Q : Value × World → Prop} (h : Brings (s6 x0 x1 x2 w) Q) : Brings (Xcall Try.prog (Value.func (Fn.func 6) #[] #[]) #[x0, x1, x2] w) Q :=
  h.call (Xcall_fn Try.func6 (by decide +kernel) (by rfl) _ _ _ w) fun _ h => c6 h

/-! lychgate/lychgatelaw06.TableBack -/
noncomputable def s7 (x0 x1 x2 : Value) (w : World) : Option (Value × World) :=
  (Xbox Try.prog 44 x2 w).bind fun r148 =>
  (Xcall Try.prog (Value.func (Fn.func 11) #[] #[]) #[x0, x1] r148.2).bind fun r149 =>
  (Qext r149.1 0).bind fun v150 =>
  (Qext r149.1 1).bind fun v151 =>
  (Qext r149.1 2).bind fun v152 =>
  (Xcall Try.prog (Value.func (Fn.func 12) #[] #[]) #[] r149.2).bind fun r153 =>
  (Qun Go.UnOp.not r153.1).bind fun v154 =>
  (guardQ v154 false (Qun Go.UnOp.not (gv (isB v154 false) v152))).bind fun v155 =>
  (Qpick v154 (Go.Value.bool true) v155).bind fun v156 =>
  condK v156 (
    some ((Go.Value.bool false), r153.2)
  ) (
    (QfieldAddr Try.prog 44 r148.1 1).bind fun v157 =>
    (Qload Try.prog 37 v157 r153.2).bind fun v158 =>
    (Xcall Try.prog (Value.func (Fn.func 15) #[] #[]) #[v150, v158] r153.2).bind fun r159 =>
    (Qext r159.1 0).bind fun _ =>
    (Qext r159.1 1).bind fun _ =>
    (Qext r159.1 2).bind fun v162 =>
    (guardQ v162 false (QfieldAddr Try.prog 44 r148.1 1)).bind fun v163 =>
    (guardQ v162 false (Qload Try.prog 37 v163 r159.2)).bind fun v164 =>
    (guardQ v162 false (QfieldAddr Try.prog 44 r148.1 2)).bind fun v165 =>
    (guardQ v162 false (Qload Try.prog 3 v165 r159.2)).bind fun v166 =>
    (guardX v162 false r159.2 (Xcall Try.prog (Value.func (Fn.func 17) #[] #[]) #[(gv (isB v162 false) v150), v164, v166, (Go.Value.int Go.IntKind.i64 3)] r159.2)).bind fun r167 =>
    (guardQ v162 false (Qbin Try.prog Go.BinOp.neq 40 r167.1 (Go.Value.int Go.IntKind.i64 0))).bind fun v168 =>
    (Qpick v162 (Go.Value.bool true) v168).bind fun v169 =>
    condK v169 (
      (guardX v162 false r167.2 (Xcall Try.prog (Value.func (Fn.func 16) #[] #[]) #[(gv (isB v162 false) v150)] r167.2)).bind fun r170 =>
      (guardQ v162 false (Qconv Try.prog 5 3 (gv (isB v162 false) x0))).bind fun v171 =>
      (guardQ v162 false (Qbin Try.prog Go.BinOp.rem 3 v171 (Go.Value.int Go.IntKind.i64 8))).bind fun v172 =>
      (guardQ v162 false (Qbin Try.prog Go.BinOp.add 3 v172 (Go.Value.int Go.IntKind.i64 1))).bind fun v173 =>
      (guardQ v162 false (Qbin Try.prog Go.BinOp.eql 3 r170.1 v173)).bind fun v174 =>
      (Qpick v162 (Go.Value.bool true) v174).bind fun v175 =>
      some (v175, r170.2)
    ) (
      (QfieldAddr Try.prog 44 r148.1 1).bind fun v176 =>
      (Qload Try.prog 37 v176 r167.2).bind fun v177 =>
      (Xcall Try.prog (Value.func (Fn.func 20) #[] #[]) #[v150, v177, (Go.Value.int Go.IntKind.i64 5)] r167.2).bind fun r178 =>
      (Qbin Try.prog Go.BinOp.neq 40 r178.1 (Go.Value.int Go.IntKind.i64 0)).bind fun v179 =>
      condK v179 (
        some ((Go.Value.bool false), r178.2)
      ) (
        (QfieldAddr Try.prog 44 r148.1 1).bind fun v180 =>
        (Qload Try.prog 37 v180 r178.2).bind fun v181 =>
        (Xcall Try.prog (Value.func (Fn.func 15) #[] #[]) #[v150, v181] r178.2).bind fun r182 =>
        (Qext r182.1 0).bind fun v183 =>
        (Qext r182.1 1).bind fun v184 =>
        (Qext r182.1 2).bind fun v185 =>
        (guardQ v185 true (QfieldAddr Try.prog 44 r148.1 2)).bind fun v186 =>
        (guardQ v185 true (Qload Try.prog 3 v186 r182.2)).bind fun v187 =>
        (guardQ v185 true (Qbin Try.prog Go.BinOp.eql 3 (gv (isB v185 true) v183) v187)).bind fun v188 =>
        (Qpick v185 v188 (Go.Value.bool false)).bind fun v189 =>
        (guardQ v189 true (Qbin Try.prog Go.BinOp.eql 3 (gv (isB v189 true) v184) (Go.Value.int Go.IntKind.i64 5))).bind fun v190 =>
        (Qpick v189 v190 (Go.Value.bool false)).bind fun v191 =>
        (guardQ v191 true (QfieldAddr Try.prog 44 r148.1 1)).bind fun v192 =>
        (guardQ v191 true (Qload Try.prog 37 v192 r182.2)).bind fun v193 =>
        (guardX v191 true r182.2 (Xcall Try.prog (Value.func (Fn.func 21) #[] #[]) #[(gv (isB v191 true) v150), v193] r182.2)).bind fun r194 =>
        (guardQ v191 true (Qbin Try.prog Go.BinOp.eql 40 r194.1 (Go.Value.int Go.IntKind.i64 0))).bind fun v195 =>
        (Qpick v191 v195 (Go.Value.bool false)).bind fun v196 =>
        (guardQ v196 true (QfieldAddr Try.prog 44 r148.1 1)).bind fun v197 =>
        (guardQ v196 true (Qload Try.prog 37 v197 r194.2)).bind fun v198 =>
        (guardX v196 true r194.2 (Xcall Try.prog (Value.func (Fn.func 21) #[] #[]) #[(gv (isB v196 true) v150), v198] r194.2)).bind fun r199 =>
        (guardQ v196 true (Qbin Try.prog Go.BinOp.eql 40 r199.1 (Go.Value.int Go.IntKind.i64 11))).bind fun v200 =>
        (Qpick v196 v200 (Go.Value.bool false)).bind fun v201 =>
        (guardQ v201 true (QfieldAddr Try.prog 44 r148.1 1)).bind fun v202 =>
        (guardQ v201 true (Qload Try.prog 37 v202 r199.2)).bind fun v203 =>
        (guardX v201 true r199.2 (Xcall Try.prog (Value.func (Fn.func 19) #[] #[]) #[(gv (isB v201 true) v150), (gv (isB v201 true) v151), v203, (Go.Value.int Go.IntKind.i64 9)] r199.2)).bind fun r204 =>
        (Qpick v201 r204.1 (Go.Value.bool false)).bind fun v205 =>
        some (v205, r204.2)
      )
    )
  )
theorem s7eq (x0 x1 x2 : Value) (w : World) : evK Try.prog 7 none (bodyOf Try.f7) none _ { tmps := (([x0, x1, x2] : List Value) ++ List.replicate (102 - 3) undef).toArray, defers := [] } w (leaveK Try.prog Try.f7) = s7 x0 x1 x2 w := by kernel_rfl
theorem c7 {x0 x1 x2 : Value} {w : World} {r : Value × World} (h : s7 x0 x1 x2 w = some r) : C Try.prog 7 #[x0, x1, x2] w = some r :=
  C_ev follows_all drawLaw (by kernel_rfl) Try.func7 (by rfl) ((s7eq x0 x1 x2 w).trans h)
theorem e7 {x0 x1 x2 : Value} {w : World} {Q : Value × World → Prop} (h : Brings (s7 x0 x1 x2 w) Q) : Brings (Xcall Try.prog (Value.func (Fn.func 7) #[] #[]) #[x0, x1, x2] w) Q :=
  h.call (Xcall_fn Try.func7 (by decide +kernel) (by rfl) _ _ _ w) fun _ h => c7 h

/-! lychgate/lychgatelaw06.TableForks -/
noncomputable def s8K0 : Exit → Act → World → Option (Value × World) := seqK (fun a w => evK Try.prog 8 none (nav [1, 1, 1, 1, 1] (bodyOf Try.f8)) none _ a w (leaveK Try.prog Try.f8)) (leaveK Try.prog Try.f8)
noncomputable def s8K1 : Exit → Act → World → Option (Value × World) := blockK 0 s8K0
noncomputable def s8L0 (s : List Value) (d : List Deferred) (w : World) : Option (Value × World) := loopN Try.prog 8 none (nav [1, 1, 1, 1, 0, 1, 0, 0] (bodyOf Try.f8)) s8K1 s d w
noncomputable def s8K2 : Exit → Act → World → Option (Value × World) := seqK (fun a w => evK Try.prog 8 none (nav [1, 1, 1, 1, 1, 1] (bodyOf Try.f8)) none _ a w (leaveK Try.prog Try.f8)) (leaveK Try.prog Try.f8)
noncomputable def s8K3 : Exit → Act → World → Option (Value × World) := blockK 2 s8K2
noncomputable def s8L1 (s : List Value) (d : List Deferred) (w : World) : Option (Value × World) := loopN Try.prog 8 none (nav [1, 1, 1, 1, 1, 0, 1, 0, 0] (bodyOf Try.f8)) s8K3 s d w
noncomputable def s8B1 : List Value → World → Option (Exit × List Value × World)
  | [x2, x6, x7, x8, x10, x11, x13], w =>
    (Qlen Try.prog #[22] 3 #[x2] w).bind fun v225 =>
    (Qbin Try.prog Go.BinOp.lss 3 x13 v225).bind fun v226 =>
    (guardQ v226 true (Qbin Try.prog Go.BinOp.lss 3 (gv (isB v226 true) x13) (Go.Value.int Go.IntKind.i64 40))).bind fun v227 =>
    (Qpick v226 v227 (Go.Value.bool false)).bind fun v228 =>
    condK v228 (
      (QindexAddr Try.prog 22 x2 x13 w.drew).bind fun v229 =>
      (QfieldAddr Try.prog 44 v229 1).bind fun v230 =>
      (Qload Try.prog 37 v230 w.drew).bind fun v231 =>
      (QindexAddr Try.prog 22 x2 x13 w.drew).bind fun v232 =>
      (QfieldAddr Try.prog 44 v232 3).bind fun v233 =>
      (Qload Try.prog 3 v233 w.drew).bind fun v234 =>
      (Xcall Try.prog (Value.func (Fn.func 19) #[] #[]) #[x7, x8, v231, v234] w.drew).bind fun r235 =>
      (Qun Go.UnOp.not r235.1).bind fun v236 =>
      (guardQ v236 false (QindexAddr Try.prog 22 (gv (isB v236 false) x2) (gv (isB v236 false) x13) r235.2)).bind fun v237 =>
      (guardQ v236 false (QfieldAddr Try.prog 44 v237 1)).bind fun v238 =>
      (guardQ v236 false (Qload Try.prog 37 v238 r235.2)).bind fun v239 =>
      (guardQ v236 false (QindexAddr Try.prog 22 (gv (isB v236 false) x2) (gv (isB v236 false) x13) r235.2)).bind fun v240 =>
      (guardQ v236 false (QfieldAddr Try.prog 44 v240 3)).bind fun v241 =>
      (guardQ v236 false (Qload Try.prog 3 v241 r235.2)).bind fun v242 =>
      (guardX v236 false r235.2 (Xcall Try.prog (Value.func (Fn.func 19) #[] #[]) #[(gv (isB v236 false) x10), (gv (isB v236 false) x11), v239, v242] r235.2)).bind fun r243 =>
      (guardQ v236 false (Qun Go.UnOp.not r243.1)).bind fun v244 =>
      (Qpick v236 (Go.Value.bool true) v244).bind fun v245 =>
      chkK True (
        condK v245 (
          some (Exit.ret, [x2, (Go.Value.bool false), x7, x8, x10, x11, x13], r243.2)
        ) (
          (Qbin Try.prog Go.BinOp.add 3 x13 (Go.Value.int Go.IntKind.i64 1)).bind fun v246 =>
          some (Exit.normal, [x2, x6, x7, x8, x10, x11, v246], r243.2)
        )
      )
    ) (
      some ((Exit.exit 2), [x2, x6, x7, x8, x10, x11, x13], w)
    )
  | _, _ => none
noncomputable def s8R1 : Exit → List Value → World → Option (Value × World)
  | (Exit.exit 2), [_, _, x7, x8, _, _, _], w =>
    (Qbuild Try.prog 37 #[] w).bind fun v247 =>
    (Xcall Try.prog (Value.func (Fn.func 19) #[] #[]) #[x7, x8, v247, (Go.Value.int Go.IntKind.i64 1099511627776)] w).bind fun r248 =>
    some (r248.1, r248.2)
  | Exit.ret, [_, x6, _, _, _, _, _], w =>
    some (x6, w)
  | _, _, _ => none
noncomputable def s8B0 : List Value → World → Option (Exit × List Value × World)
  | [x2, x6, x7, x8, x10, x11, x12], w =>
    (Qlen Try.prog #[22] 3 #[x2] w).bind fun v216 =>
    (Qbin Try.prog Go.BinOp.lss 3 x12 v216).bind fun v217 =>
    (guardQ v217 true (Qbin Try.prog Go.BinOp.lss 3 (gv (isB v217 true) x12) (Go.Value.int Go.IntKind.i64 40))).bind fun v218 =>
    (Qpick v217 v218 (Go.Value.bool false)).bind fun v219 =>
    condK v219 (
      (QindexAddr Try.prog 22 x2 x12 w).bind fun v220 =>
      (Qload Try.prog 44 v220 w).bind fun v221 =>
      (Xcall Try.prog (Value.func (Fn.func 24) #[] #[]) #[x10, x11, v221] w).bind fun r222 =>
      (Qun Go.UnOp.not r222.1).bind fun v223 =>
      condK v223 (
        some (Exit.ret, [x2, (Go.Value.bool false), x7, x8, x10, x11, x12], r222.2)
      ) (
        (Qbin Try.prog Go.BinOp.add 3 x12 (Go.Value.int Go.IntKind.i64 1)).bind fun v224 =>
        some (Exit.normal, [x2, x6, x7, x8, x10, x11, v224], r222.2)
      )
    ) (
      some ((Exit.exit 0), [x2, x6, x7, x8, x10, x11, x12], w)
    )
  | _, _ => none
noncomputable def s8R0 : Exit → List Value → World → Option (Value × World)
  | (Exit.exit 0), [x2, x6, x7, x8, x10, x11, _], w =>
    loopR s8B1 s8R1 [x2, x6, x7, x8, x10, x11, (Go.Value.int Go.IntKind.i64 0)] w
  | Exit.ret, [_, x6, _, _, _, _, _], w =>
    some (x6, w)
  | _, _, _ => none
noncomputable def s8R0x0raw (x2 x6 x7 x8 x10 x11 x12 : Value) (g : Nat → Value) (w : World) : Option (Value × World) :=
  s8L1 [(g 0), (g 1), x2, (g 3), (g 4), (g 5), x6, x7, x8, (g 9), x10, x11, x12, (Go.Value.int Go.IntKind.i64 0), (g 14), (g 15), (g 16), (g 17), (g 18), (g 19), (g 20), (g 21), (g 22), (g 23), (g 24), (g 25), (g 26), (g 27), (g 28), (g 29), (g 30), (g 31), (g 32), (g 33), (g 34), (g 35), (g 36), (g 37), (g 38), (g 39), (g 40), (g 41), (g 42), (g 43), (g 44), (g 45), (g 46), (g 47), (g 48), (g 49), (g 50), (g 51), (g 52), (g 53), (g 54), (g 55), (g 56), (g 57), (g 58), (g 59), (g 60), (g 61), (g 62), (g 63), (g 64), (g 65), (g 66), (g 67), (g 68), (g 69), (g 70), (g 71), (g 72), (g 73), (g 74), (g 75), (g 76), (g 77), (g 78), (g 79), (g 80), (g 81), (g 82), (g 83), (g 84), (g 85), (g 86), (g 87), (g 88), (g 89), (g 90), (g 91), (g 92)] [] w
noncomputable def s8raw (x0 x1 x2 : Value) (w : World) : Option (Value × World) :=
  (Xcall Try.prog (Value.func (Fn.func 11) #[] #[]) #[x0, x1] w).bind fun r206 =>
  (Qext r206.1 0).bind fun v207 =>
  (Qext r206.1 1).bind fun v208 =>
  (Qext r206.1 2).bind fun v209 =>
  (Xcall Try.prog (Value.func (Fn.func 12) #[] #[]) #[] r206.2).bind fun r210 =>
  (Qun Go.UnOp.not r210.1).bind fun v211 =>
  (guardQ v211 false (Qun Go.UnOp.not (gv (isB v211 false) v209))).bind fun v212 =>
  (Qpick v211 (Go.Value.bool true) v212).bind fun v213 =>
  condK v213 (
    some ((Go.Value.bool false), r210.2)
  ) (
    (Xcall Try.prog (Value.func (Fn.func 22) #[] #[]) #[v207] r210.2).bind fun r214 =>
    (Xcall Try.prog (Value.func (Fn.func 23) #[] #[]) #[v208] r214.2).bind fun r215 =>
    s8L0 [x0, x1, x2, undef, undef, undef, (Go.Value.bool false), v207, v208, v209, r214.1, r215.1, (Go.Value.int Go.IntKind.i64 0), undef, r206.1, x0, x1, r206.1, v207, v208, v209, r210.1, v211, v211, (gv (isB v211 false) v209), v212, v213, v207, r214.1, v208, r215.1, undef, undef, undef, undef, undef, undef, undef, undef, undef, undef, undef, undef, undef, undef, undef, undef, undef, undef, undef, undef, undef, undef, undef, undef, undef, undef, undef, undef, undef, undef, undef, undef, undef, undef, undef, undef, undef, undef, undef, undef, undef, undef, undef, undef, undef, undef, undef, undef, undef, undef, undef, undef, undef, undef, undef, undef, undef, undef, undef, undef, undef, undef] [] r215.2
  )
noncomputable def s8 (x0 x1 x2 : Value) (w : World) : Option (Value × World) :=
  (Xcall Try.prog (Value.func (Fn.func 11) #[] #[]) #[x0, x1] w).bind fun r206 =>
  (Qext r206.1 0).bind fun v207 =>
  (Qext r206.1 1).bind fun v208 =>
  (Qext r206.1 2).bind fun v209 =>
  (Xcall Try.prog (Value.func (Fn.func 12) #[] #[]) #[] r206.2).bind fun r210 =>
  (Qun Go.UnOp.not r210.1).bind fun v211 =>
  (guardQ v211 false (Qun Go.UnOp.not (gv (isB v211 false) v209))).bind fun v212 =>
  (Qpick v211 (Go.Value.bool true) v212).bind fun v213 =>
  condK v213 (
    some ((Go.Value.bool false), r210.2)
  ) (
    (Xcall Try.prog (Value.func (Fn.func 22) #[] #[]) #[v207] r210.2).bind fun r214 =>
    (Xcall Try.prog (Value.func (Fn.func 23) #[] #[]) #[v208] r214.2).bind fun r215 =>
    loopR s8B0 s8R0 [x2, (Go.Value.bool false), v207, v208, r214.1, r215.1, (Go.Value.int Go.IntKind.i64 0)] r215.2
  )
theorem s8B1eq (x2 x6 x7 x8 x10 x11 x13 : Value) (w : World) (g : Nat → Value) (d : List Deferred) : evK Try.prog 8 none (nav [1, 1, 1, 1, 1, 0, 1, 0, 0] (bodyOf Try.f8)) none _ (frm 93 (setL [2, 6, 7, 8, 10, 11, 13] [x2, x6, x7, x8, x10, x11, x13] g) d) w (projK [2, 6, 7, 8, 10, 11, 13]) = s8B1 [x2, x6, x7, x8, x10, x11, x13] w := by kernel_rfl
theorem s8R1x2eq (x2 x6 x7 x8 x10 x11 x13 : Value) (g : Nat → Value) (w : World) : s8K3 (Exit.exit 2) (frm 93 (setL [2, 6, 7, 8, 10, 11, 13] [x2, x6, x7, x8, x10, x11, x13] g) []) w = s8R1 (Exit.exit 2) [x2, x6, x7, x8, x10, x11, x13] w := by kernel_rfl
theorem s8R1ret_eq (x2 x6 x7 x8 x10 x11 x13 : Value) (g : Nat → Value) (w : World) : s8K3 Exit.ret (frm 93 (setL [2, 6, 7, 8, 10, 11, 13] [x2, x6, x7, x8, x10, x11, x13] g) []) w = s8R1 Exit.ret [x2, x6, x7, x8, x10, x11, x13] w := by kernel_rfl
theorem s8R1of : ∀ (e : Exit) (xs : List Value) (w : World) (g : Nat → Value) (y : _), s8R1 e xs w = some y → s8K3 e (frm 93 (setL [2, 6, 7, 8, 10, 11, 13] xs g) []) w = some y := by
  intro e xs w g y h
  unfold s8R1 at h
  split at h
  · exact (s8R1x2eq _ _ _ _ _ _ _ g _).trans h
  · exact (s8R1ret_eq _ _ _ _ _ _ _ g _).trans h
  · cases h
set_option maxRecDepth 20000 in
theorem s8L1of {s0 s1 s2 s3 s4 s5 s6 s7 s8 s9 s10 s11 s12 s13 s14 s15 s16 s17 s18 s19 s20 s21 s22 s23 s24 s25 s26 s27 s28 s29 s30 s31 s32 s33 s34 s35 s36 s37 s38 s39 s40 s41 s42 s43 s44 s45 s46 s47 s48 s49 s50 s51 s52 s53 s54 s55 s56 s57 s58 s59 s60 s61 s62 s63 s64 s65 s66 s67 s68 s69 s70 s71 s72 s73 s74 s75 s76 s77 s78 s79 s80 s81 s82 s83 s84 s85 s86 s87 s88 s89 s90 s91 s92 : Value} {w : World} {r : _} (h : loopR s8B1 s8R1 [s2, s6, s7, s8, s10, s11, s13] w = some r) : s8L1 [s0, s1, s2, s3, s4, s5, s6, s7, s8, s9, s10, s11, s12, s13, s14, s15, s16, s17, s18, s19, s20, s21, s22, s23, s24, s25, s26, s27, s28, s29, s30, s31, s32, s33, s34, s35, s36, s37, s38, s39, s40, s41, s42, s43, s44, s45, s46, s47, s48, s49, s50, s51, s52, s53, s54, s55, s56, s57, s58, s59, s60, s61, s62, s63, s64, s65, s66, s67, s68, s69, s70, s71, s72, s73, s74, s75, s76, s77, s78, s79, s80, s81, s82, s83, s84, s85, s86, s87, s88, s89, s90, s91, s92] [] w = some r :=
  loopN_of (B := s8B1) (R := s8R1) (n := 93) (live := [2, 6, 7, 8, 10, 11, 13]) (fun xs w g y hl h => match xs, hl, h with | [x2, x6, x7, x8, x10, x11, x13], _, h => (s8B1eq x2 x6 x7 x8 x10 x11 x13 w g []).trans h) (by kernel_rfl) (s8R1of) (fun i => ([s0, s1, s2, s3, s4, s5, s6, s7, s8, s9, s10, s11, s12, s13, s14, s15, s16, s17, s18, s19, s20, s21, s22, s23, s24, s25, s26, s27, s28, s29, s30, s31, s32, s33, s34, s35, s36, s37, s38, s39, s40, s41, s42, s43, s44, s45, s46, s47, s48, s49, s50, s51, s52, s53, s54, s55, s56, s57, s58, s59, s60, s61, s62, s63, s64, s65, s66, s67, s68, s69, s70, s71, s72, s73, s74, s75, s76, s77, s78, s79, s80, s81, s82, s83, s84, s85, s86, s87, s88, s89, s90, s91, s92] : List Value).getD i undef) (by kernel_rfl) rfl h
theorem s8B0eq (x2 x6 x7 x8 x10 x11 x12 : Value) (w : World) (g : Nat → Value) (d : List Deferred) : evK Try.prog 8 none (nav [1, 1, 1, 1, 0, 1, 0, 0] (bodyOf Try.f8)) none _ (frm 93 (setL [2, 6, 7, 8, 10, 11, 12] [x2, x6, x7, x8, x10, x11, x12] g) d) w (projK [2, 6, 7, 8, 10, 11, 12]) = s8B0 [x2, x6, x7, x8, x10, x11, x12] w := by kernel_rfl
theorem s8R0x0eq (x2 x6 x7 x8 x10 x11 x12 : Value) (g : Nat → Value) (w : World) : s8K1 (Exit.exit 0) (frm 93 (setL [2, 6, 7, 8, 10, 11, 12] [x2, x6, x7, x8, x10, x11, x12] g) []) w = s8R0x0raw x2 x6 x7 x8 x10 x11 x12 g w := by kernel_rfl
theorem s8R0ret_eq (x2 x6 x7 x8 x10 x11 x12 : Value) (g : Nat → Value) (w : World) : s8K1 Exit.ret (frm 93 (setL [2, 6, 7, 8, 10, 11, 12] [x2, x6, x7, x8, x10, x11, x12] g) []) w = s8R0 Exit.ret [x2, x6, x7, x8, x10, x11, x12] w := by kernel_rfl
theorem s8R0of : ∀ (e : Exit) (xs : List Value) (w : World) (g : Nat → Value) (y : _), s8R0 e xs w = some y → s8K1 e (frm 93 (setL [2, 6, 7, 8, 10, 11, 12] xs g) []) w = some y := by
  intro e xs w g y h
  unfold s8R0 at h
  split at h
  · exact (s8R0x0eq _ _ _ _ _ _ _ g _).trans ((s8L1of) h)
  · exact (s8R0ret_eq _ _ _ _ _ _ _ g _).trans h
  · cases h
set_option maxRecDepth 20000 in
theorem s8L0of {s0 s1 s2 s3 s4 s5 s6 s7 s8 s9 s10 s11 s12 s13 s14 s15 s16 s17 s18 s19 s20 s21 s22 s23 s24 s25 s26 s27 s28 s29 s30 s31 s32 s33 s34 s35 s36 s37 s38 s39 s40 s41 s42 s43 s44 s45 s46 s47 s48 s49 s50 s51 s52 s53 s54 s55 s56 s57 s58 s59 s60 s61 s62 s63 s64 s65 s66 s67 s68 s69 s70 s71 s72 s73 s74 s75 s76 s77 s78 s79 s80 s81 s82 s83 s84 s85 s86 s87 s88 s89 s90 s91 s92 : Value} {w : World} {r : _} (h : loopR s8B0 s8R0 [s2, s6, s7, s8, s10, s11, s12] w = some r) : s8L0 [s0, s1, s2, s3, s4, s5, s6, s7, s8, s9, s10, s11, s12, s13, s14, s15, s16, s17, s18, s19, s20, s21, s22, s23, s24, s25, s26, s27, s28, s29, s30, s31, s32, s33, s34, s35, s36, s37, s38, s39, s40, s41, s42, s43, s44, s45, s46, s47, s48, s49, s50, s51, s52, s53, s54, s55, s56, s57, s58, s59, s60, s61, s62, s63, s64, s65, s66, s67, s68, s69, s70, s71, s72, s73, s74, s75, s76, s77, s78, s79, s80, s81, s82, s83, s84, s85, s86, s87, s88, s89, s90, s91, s92] [] w = some r :=
  loopN_of (B := s8B0) (R := s8R0) (n := 93) (live := [2, 6, 7, 8, 10, 11, 12]) (fun xs w g y hl h => match xs, hl, h with | [x2, x6, x7, x8, x10, x11, x12], _, h => (s8B0eq x2 x6 x7 x8 x10 x11 x12 w g []).trans h) (by kernel_rfl) (s8R0of) (fun i => ([s0, s1, s2, s3, s4, s5, s6, s7, s8, s9, s10, s11, s12, s13, s14, s15, s16, s17, s18, s19, s20, s21, s22, s23, s24, s25, s26, s27, s28, s29, s30, s31, s32, s33, s34, s35, s36, s37, s38, s39, s40, s41, s42, s43, s44, s45, s46, s47, s48, s49, s50, s51, s52, s53, s54, s55, s56, s57, s58, s59, s60, s61, s62, s63, s64, s65, s66, s67, s68, s69, s70, s71, s72, s73, s74, s75, s76, s77, s78, s79, s80, s81, s82, s83, s84, s85, s86, s87, s88, s89, s90, s91, s92] : List Value).getD i undef) (by kernel_rfl) rfl h
theorem s8eq (x0 x1 x2 : Value) (w : World) : evK Try.prog 8 none (bodyOf Try.f8) none _ { tmps := (([x0, x1, x2] : List Value) ++ List.replicate (93 - 3) undef).toArray, defers := [] } w (leaveK Try.prog Try.f8) = s8raw x0 x1 x2 w := by kernel_rfl
theorem c8 {x0 x1 x2 : Value} {w : World} {r : Value × World} (h : s8 x0 x1 x2 w = some r) : C Try.prog 8 #[x0, x1, x2] w = some r :=
  C_ev follows_all drawLaw (by kernel_rfl) Try.func8 (by rfl) ((s8eq x0 x1 x2 w).trans (show s8raw x0 x1 x2 w = some r from (Ev.bind_mono fun (r206 : Value × World) => (Ev.bind_mono fun (v207 : Value) => (Ev.bind_mono fun (v208 : Value) => (Ev.bind_mono fun (v209 : Value) => (Ev.bind_mono fun (r210 : Value × World) => (Ev.bind_mono fun (v211 : Value) => (Ev.bind_mono fun (v212 : Value) => (Ev.bind_mono fun (v213 : Value) => (condK_mono id (Ev.bind_mono fun (r214 : Value × World) => (Ev.bind_mono fun (r215 : Value × World) => (s8L0of)))))))))))) h))
theorem e8 {x0 x1 x2 : Value} {w : World} {Q : Value × World → Prop} (h : Brings (s8 x0 x1 x2 w) Q) : Brings (Xcall Try.prog (Value.func (Fn.func 8) #[] #[]) #[x0, x1, x2] w) Q :=
  h.call (Xcall_fn Try.func8 (by decide +kernel) (by rfl) _ _ _ w) fun _ h => c8 h

/-! lychgate/lychgatelaw06.TableNone -/
noncomputable def s9 (x0 x1 : Value) (w : World) : Option (Value × World) :=
  (Xbox Try.prog 44 x0 w).bind fun r249 =>
  (QfieldAddr Try.prog 44 r249.1 1).bind fun v250 =>
  (Qload Try.prog 37 v250 r249.2).bind fun v251 =>
  (Xcall Try.prog (Value.func (Fn.func 15) #[] #[]) #[(Go.Value.pointer none), v251] r249.2).bind fun r252 =>
  (Qext r252.1 0).bind fun v253 =>
  (Qext r252.1 1).bind fun v254 =>
  (Qext r252.1 2).bind fun v255 =>
  (Xcall Try.prog (Value.func (Fn.func 25) #[] #[]) #[(Go.Value.pointer none)] r252.2).bind fun r256 =>
  (Qext r256.1 0).bind fun v257 =>
  (Qext r256.1 1).bind fun v258 =>
  (Xalloc Try.prog 37 r256.2).bind fun r259 =>
  (Xstore Try.prog 37 r259.1 v257 r259.2).bind fun r260 =>
  (Xcall Try.prog (Value.func (Fn.func 12) #[] #[]) #[] r260.2).bind fun r261 =>
  (guardQ r261.1 true (QfieldAddr Try.prog 44 r249.1 1)).bind fun v262 =>
  (guardQ r261.1 true (Qload Try.prog 37 v262 r261.2)).bind fun v263 =>
  (guardQ r261.1 true (QfieldAddr Try.prog 44 r249.1 2)).bind fun v264 =>
  (guardQ r261.1 true (Qload Try.prog 3 v264 r261.2)).bind fun v265 =>
  (guardQ r261.1 true (QfieldAddr Try.prog 44 r249.1 3)).bind fun v266 =>
  (guardQ r261.1 true (Qload Try.prog 3 v266 r261.2)).bind fun v267 =>
  (guardX r261.1 true r261.2 (Xcall Try.prog (Value.func (Fn.func 17) #[] #[]) #[(gv (isB r261.1 true) (Go.Value.pointer none)), v263, v265, v267] r261.2)).bind fun r268 =>
  (guardQ r261.1 true (Qbin Try.prog Go.BinOp.eql 40 r268.1 (Go.Value.int Go.IntKind.i64 1))).bind fun v269 =>
  (Qpick r261.1 v269 (Go.Value.bool false)).bind fun v270 =>
  (guardQ v270 true (QfieldAddr Try.prog 44 r249.1 1)).bind fun v271 =>
  (guardQ v270 true (Qload Try.prog 37 v271 r268.2)).bind fun v272 =>
  (guardQ v270 true (QfieldAddr Try.prog 44 r249.1 3)).bind fun v273 =>
  (guardQ v270 true (Qload Try.prog 3 v273 r268.2)).bind fun v274 =>
  (guardX v270 true r268.2 (Xcall Try.prog (Value.func (Fn.func 20) #[] #[]) #[(gv (isB v270 true) (Go.Value.pointer none)), v272, v274] r268.2)).bind fun r275 =>
  (guardQ v270 true (Qbin Try.prog Go.BinOp.eql 40 r275.1 (Go.Value.int Go.IntKind.i64 1))).bind fun v276 =>
  (Qpick v270 v276 (Go.Value.bool false)).bind fun v277 =>
  (guardQ v277 true (QfieldAddr Try.prog 44 r249.1 1)).bind fun v278 =>
  (guardQ v277 true (Qload Try.prog 37 v278 r275.2)).bind fun v279 =>
  (guardX v277 true r275.2 (Xcall Try.prog (Value.func (Fn.func 21) #[] #[]) #[(gv (isB v277 true) (Go.Value.pointer none)), v279] r275.2)).bind fun r280 =>
  (guardQ v277 true (Qbin Try.prog Go.BinOp.eql 40 r280.1 (Go.Value.int Go.IntKind.i64 1))).bind fun v281 =>
  (Qpick v277 v281 (Go.Value.bool false)).bind fun v282 =>
  (guardQ v282 true (Qbin Try.prog Go.BinOp.eql 3 (gv (isB v282 true) v253) (Go.Value.int Go.IntKind.i64 0))).bind fun v283 =>
  (Qpick v282 v283 (Go.Value.bool false)).bind fun v284 =>
  (guardQ v284 true (Qbin Try.prog Go.BinOp.eql 3 (gv (isB v284 true) v254) (Go.Value.int Go.IntKind.i64 0))).bind fun v285 =>
  (Qpick v284 v285 (Go.Value.bool false)).bind fun v286 =>
  (guardQ v286 true (Qun Go.UnOp.not (gv (isB v286 true) v255))).bind fun v287 =>
  (Qpick v286 v287 (Go.Value.bool false)).bind fun v288 =>
  (guardQ v288 true (Qload Try.prog 37 r259.1 r280.2)).bind fun v289 =>
  (guardQ v288 true (Qbuild Try.prog 37 #[] r280.2)).bind fun v290 =>
  (guardQ v288 true (Qbin Try.prog Go.BinOp.eql 37 v289 v290)).bind fun v291 =>
  (Qpick v288 v291 (Go.Value.bool false)).bind fun v292 =>
  (guardQ v292 true (Qun Go.UnOp.not (gv (isB v292 true) v258))).bind fun v293 =>
  (Qpick v292 v293 (Go.Value.bool false)).bind fun v294 =>
  (guardX v294 true r280.2 (Xcall Try.prog (Value.func (Fn.func 16) #[] #[]) #[(gv (isB v294 true) (Go.Value.pointer none))] r280.2)).bind fun r295 =>
  (guardQ v294 true (Qbin Try.prog Go.BinOp.eql 3 r295.1 (Go.Value.int Go.IntKind.i64 0))).bind fun v296 =>
  (Qpick v294 v296 (Go.Value.bool false)).bind fun v297 =>
  (guardQ v297 true (QfieldAddr Try.prog 44 r249.1 3)).bind fun v298 =>
  (guardQ v297 true (Qload Try.prog 3 v298 r295.2)).bind fun v299 =>
  (guardX v297 true r295.2 (Xcall Try.prog (Value.func (Fn.func 13) #[] #[]) #[(gv (isB v297 true) (Go.Value.pointer none)), v299] r295.2)).bind fun r300 =>
  (guardQ v297 true (Qlen Try.prog #[30] 3 #[r300.1] r300.2)).bind fun v301 =>
  (guardQ v297 true (Qbin Try.prog Go.BinOp.eql 3 v301 (Go.Value.int Go.IntKind.i64 0))).bind fun v302 =>
  (Qpick v297 v302 (Go.Value.bool false)).bind fun v303 =>
  (guardX v303 true r300.2 (Xcall Try.prog (Value.func (Fn.func 22) #[] #[]) #[(gv (isB v303 true) (Go.Value.pointer none))] r300.2)).bind fun r304 =>
  (guardQ v303 true (Qbin Try.prog Go.BinOp.eql 25 r304.1 (Go.Value.pointer none))).bind fun v305 =>
  (Qpick v303 v305 (Go.Value.bool false)).bind fun v306 =>
  (guardX v306 true r304.2 (Xcall Try.prog (Value.func (Fn.func 26) #[] #[]) #[(gv (isB v306 true) x1)] r304.2)).bind fun r307 =>
  (guardQ v306 true (Qbin Try.prog Go.BinOp.eql 25 r307.1 (Go.Value.pointer none))).bind fun v308 =>
  (guardQ v306 true (Qbin Try.prog Go.BinOp.lss 3 (gv (isB v306 true) x1) (Go.Value.int Go.IntKind.i64 1))).bind fun v309 =>
  (guardQ (gv (isB v306 true) v309) false (Qbin Try.prog Go.BinOp.gtr 3 (gv (isB (gv (isB v306 true) v309) false) x1) (Go.Value.int Go.IntKind.i64 4096))).bind fun v310 =>
  (guardQ v306 true (Qpick (gv (isB v306 true) v309) (Go.Value.bool true) v310)).bind fun v311 =>
  (guardQ v306 true (Qbin Try.prog Go.BinOp.eql 4 v308 v311)).bind fun v312 =>
  (Qpick v306 v312 (Go.Value.bool false)).bind fun v313 =>
  some (v313, r307.2)
theorem s9eq (x0 x1 : Value) (w : World) : evK Try.prog 9 none (bodyOf Try.f9) none _ { tmps := (([x0, x1] : List Value) ++ List.replicate (103 - 2) undef).toArray, defers := [] } w (leaveK Try.prog Try.f9) = s9 x0 x1 w := by kernel_rfl
theorem c9 {x0 x1 : Value} {w : World} {r : Value × World} (h : s9 x0 x1 w = some r) : C Try.prog 9 #[x0, x1] w = some r :=
  C_ev follows_all drawLaw (by kernel_rfl) Try.func9 (by rfl) ((s9eq x0 x1 w).trans h)
theorem e9 {x0 x1 : Value} {w : World} {Q : Value × World → Prop} (h : Brings (s9 x0 x1 w) Q) : Brings (Xcall Try.prog (Value.func (Fn.func 9) #[] #[]) #[x0, x1] w) Q :=
  h.call (Xcall_fn Try.func9 (by decide +kernel) (by rfl) _ _ _ w) fun _ h => c9 h

/-! lychgate/lychgatetop.TopTable -/
noncomputable def s10K0 : Exit → Act → World → Option (Value × World) := seqK (fun a w => evK Try.prog 10 none (nav [1, 1, 1, 1] (bodyOf Try.f10)) none _ a w (leaveK Try.prog Try.f10)) (leaveK Try.prog Try.f10)
noncomputable def s10K1 : Exit → Act → World → Option (Value × World) := blockK 0 s10K0
noncomputable def s10L0 (s : List Value) (d : List Deferred) (w : World) : Option (Value × World) := loopN Try.prog 10 none (nav [1, 1, 1, 0, 1, 0, 0] (bodyOf Try.f10)) s10K1 s d w
noncomputable def s10B0 : List Value → World → Option (Exit × List Value × World)
  | [x0, x1, x4, x5, x6, x7], w =>
    (Qlen Try.prog #[58] 3 #[x0] w).bind fun v315 =>
    (Qbin Try.prog Go.BinOp.lss 3 x7 v315).bind fun v316 =>
    (guardQ v316 true (Qlen Try.prog #[59] 3 #[(gv (isB v316 true) x1)] w)).bind fun v317 =>
    (guardQ v316 true (Qbin Try.prog Go.BinOp.lss 3 (gv (isB v316 true) x7) v317)).bind fun v318 =>
    (Qpick v316 v318 (Go.Value.bool false)).bind fun v319 =>
    (guardQ v319 true (Qbin Try.prog Go.BinOp.lss 3 (gv (isB v319 true) x7) (Go.Value.int Go.IntKind.i64 60))).bind fun v320 =>
    (Qpick v319 v320 (Go.Value.bool false)).bind fun v321 =>
    condK v321 (
      (QindexAddr Try.prog 58 x0 x7 w).bind fun v322 =>
      (Qload Try.prog 23 v322 w).bind fun v323 =>
      (Qbuild Try.prog 37 #[(0, (Go.Value.int Go.IntKind.u8 17)), (3, v323)] w).bind fun v324 =>
      (Xalloc Try.prog 37 w).bind fun r325 =>
      (Xstore Try.prog 37 r325.1 v324 r325.2).bind fun r326 =>
      (Qload Try.prog 37 r325.1 r326.2).bind fun v327 =>
      (Xcall Try.prog (Value.func (Fn.func 15) #[] #[]) #[x5, v327] r326.2).bind fun r328 =>
      (Qext r328.1 0).bind fun _ =>
      (Qext r328.1 1).bind fun _ =>
      (Qext r328.1 2).bind fun v331 =>
      (Qload Try.prog 37 r325.1 r328.2.drew).bind fun v332 =>
      (QindexAddr Try.prog 59 x1 x7 r328.2.drew).bind fun v333 =>
      (Qload Try.prog 5 v333 r328.2.drew).bind fun v334 =>
      (Qconv Try.prog 5 3 v334).bind fun v335 =>
      (Xcall Try.prog (Value.func (Fn.func 17) #[] #[]) #[x5, v332, x7, v335] r328.2.drew).bind fun r336 =>
      chkK True (
        (Qbin Try.prog Go.BinOp.eql 40 r336.1 (Go.Value.int Go.IntKind.i64 10)).bind fun v337 =>
        (Qbin Try.prog Go.BinOp.neq 4 v331 v337).bind fun v338 =>
        (guardQ v338 false (Qun Go.UnOp.not (gv (isB v338 false) v331))).bind fun v339 =>
        (guardQ (gv (isB v338 false) v339) true (Qbin Try.prog Go.BinOp.neq 40 (gv (isB (gv (isB v338 false) v339) true) r336.1) (Go.Value.int Go.IntKind.i64 0))).bind fun v340 =>
        (guardQ v338 false (Qpick (gv (isB v338 false) v339) v340 (Go.Value.bool false))).bind fun v341 =>
        (Qpick v338 (Go.Value.bool true) v341).bind fun v342 =>
        condK v342 (
          some (Exit.ret, [x0, x1, (Go.Value.bool false), x5, x6, x7], r336.2)
        ) (
          (Qun Go.UnOp.not v331).bind fun v343 =>
          condK v343 (
            (Qbin Try.prog Go.BinOp.add 3 x6 (Go.Value.int Go.IntKind.i64 1)).bind fun v344 =>
            (Qbin Try.prog Go.BinOp.add 3 x7 (Go.Value.int Go.IntKind.i64 1)).bind fun v345 =>
            some (Exit.normal, [x0, x1, x4, x5, v344, v345], r336.2)
          ) (
            (Qbin Try.prog Go.BinOp.add 3 x7 (Go.Value.int Go.IntKind.i64 1)).bind fun v346 =>
            some (Exit.normal, [x0, x1, x4, x5, x6, v346], r336.2)
          )
        )
      )
    ) (
      some ((Exit.exit 0), [x0, x1, x4, x5, x6, x7], w)
    )
  | _, _ => none
noncomputable def s10R0 : Exit → List Value → World → Option (Value × World)
  | (Exit.exit 0), [_, _, _, x5, x6, _], w =>
    (Xcall Try.prog (Value.func (Fn.func 13) #[] #[]) #[x5, (Go.Value.int Go.IntKind.i64 255)] w).bind fun r347 =>
    (Xcall Try.prog (Value.func (Fn.func 26) #[] #[]) #[(Go.Value.int Go.IntKind.i64 1)] r347.2).bind fun r348 =>
    (Xcall Try.prog (Value.func (Fn.func 16) #[] #[]) #[x5] r348.2).bind fun r349 =>
    (Qbin Try.prog Go.BinOp.eql 3 r349.1 x6).bind fun v350 =>
    (guardQ v350 true (Qlen Try.prog #[30] 3 #[(gv (isB v350 true) r347.1)] r349.2)).bind fun v351 =>
    (guardQ v350 true (Qbin Try.prog Go.BinOp.eql 3 v351 (gv (isB v350 true) x6))).bind fun v352 =>
    (Qpick v350 v352 (Go.Value.bool false)).bind fun v353 =>
    (guardQ v353 true (Qbuild Try.prog 37 #[] r349.2)).bind fun v354 =>
    (guardX v353 true r349.2 (Xcall Try.prog (Value.func (Fn.func 17) #[] #[]) #[(gv (isB v353 true) r348.1), v354, (Go.Value.int Go.IntKind.i64 1), (Go.Value.int Go.IntKind.i64 1)] r349.2)).bind fun r355 =>
    (guardQ v353 true (Qbin Try.prog Go.BinOp.eql 40 r355.1 (Go.Value.int Go.IntKind.i64 0))).bind fun v356 =>
    (Qpick v353 v356 (Go.Value.bool false)).bind fun v357 =>
    (guardX v357 true r355.2 (Xcall Try.prog (Value.func (Fn.func 16) #[] #[]) #[(gv (isB v357 true) r348.1)] r355.2)).bind fun r358 =>
    (guardQ v357 true (Qbin Try.prog Go.BinOp.eql 3 r358.1 (Go.Value.int Go.IntKind.i64 1))).bind fun v359 =>
    (Qpick v357 v359 (Go.Value.bool false)).bind fun v360 =>
    some (v360, r358.2)
  | Exit.ret, [_, _, x4, _, _, _], w =>
    some (x4, w)
  | _, _, _ => none
noncomputable def s10raw (x0 x1 : Value) (w : World) : Option (Value × World) :=
  (Xcall Try.prog (Value.func (Fn.func 26) #[] #[]) #[(Go.Value.int Go.IntKind.i64 64)] w).bind fun r314 =>
  s10L0 [x0, x1, undef, undef, (Go.Value.bool false), r314.1, (Go.Value.int Go.IntKind.i64 0), (Go.Value.int Go.IntKind.i64 0), undef, undef, undef, undef, undef, undef, undef, r314.1, undef, undef, undef, undef, undef, undef, undef, undef, undef, undef, undef, undef, undef, undef, undef, undef, undef, undef, undef, undef, undef, undef, undef, undef, undef, undef, undef, undef, undef, undef, undef, undef, undef, undef, undef, undef, undef, undef, undef, undef, undef, undef, undef, undef, undef, undef, undef, undef, undef, undef, undef, undef, undef, undef, undef, undef, undef, undef, undef, undef, undef, undef, undef, undef, undef, undef, undef, undef, undef, undef, undef, undef, undef, undef, undef, undef, undef] [] r314.2
noncomputable def s10 (x0 x1 : Value) (w : World) : Option (Value × World) :=
  (Xcall Try.prog (Value.func (Fn.func 26) #[] #[]) #[(Go.Value.int Go.IntKind.i64 64)] w).bind fun r314 =>
  loopR s10B0 s10R0 [x0, x1, (Go.Value.bool false), r314.1, (Go.Value.int Go.IntKind.i64 0), (Go.Value.int Go.IntKind.i64 0)] r314.2
theorem s10B0eq (x0 x1 x4 x5 x6 x7 : Value) (w : World) (g : Nat → Value) (d : List Deferred) : evK Try.prog 10 none (nav [1, 1, 1, 0, 1, 0, 0] (bodyOf Try.f10)) none _ (frm 93 (setL [0, 1, 4, 5, 6, 7] [x0, x1, x4, x5, x6, x7] g) d) w (projK [0, 1, 4, 5, 6, 7]) = s10B0 [x0, x1, x4, x5, x6, x7] w := by kernel_rfl
theorem s10R0x0eq (x0 x1 x4 x5 x6 x7 : Value) (g : Nat → Value) (w : World) : s10K1 (Exit.exit 0) (frm 93 (setL [0, 1, 4, 5, 6, 7] [x0, x1, x4, x5, x6, x7] g) []) w = s10R0 (Exit.exit 0) [x0, x1, x4, x5, x6, x7] w := by kernel_rfl
theorem s10R0ret_eq (x0 x1 x4 x5 x6 x7 : Value) (g : Nat → Value) (w : World) : s10K1 Exit.ret (frm 93 (setL [0, 1, 4, 5, 6, 7] [x0, x1, x4, x5, x6, x7] g) []) w = s10R0 Exit.ret [x0, x1, x4, x5, x6, x7] w := by kernel_rfl
theorem s10R0of : ∀ (e : Exit) (xs : List Value) (w : World) (g : Nat → Value) (y : _), s10R0 e xs w = some y → s10K1 e (frm 93 (setL [0, 1, 4, 5, 6, 7] xs g) []) w = some y := by
  intro e xs w g y h
  unfold s10R0 at h
  split at h
  · exact (s10R0x0eq _ _ _ _ _ _ g _).trans h
  · exact (s10R0ret_eq _ _ _ _ _ _ g _).trans h
  · cases h
set_option maxRecDepth 20000 in
theorem s10L0of {s0 s1 s2 s3 s4 s5 s6 s7 s8 s9 s10 s11 s12 s13 s14 s15 s16 s17 s18 s19 s20 s21 s22 s23 s24 s25 s26 s27 s28 s29 s30 s31 s32 s33 s34 s35 s36 s37 s38 s39 s40 s41 s42 s43 s44 s45 s46 s47 s48 s49 s50 s51 s52 s53 s54 s55 s56 s57 s58 s59 s60 s61 s62 s63 s64 s65 s66 s67 s68 s69 s70 s71 s72 s73 s74 s75 s76 s77 s78 s79 s80 s81 s82 s83 s84 s85 s86 s87 s88 s89 s90 s91 s92 : Value} {w : World} {r : _} (h : loopR s10B0 s10R0 [s0, s1, s4, s5, s6, s7] w = some r) : s10L0 [s0, s1, s2, s3, s4, s5, s6, s7, s8, s9, s10, s11, s12, s13, s14, s15, s16, s17, s18, s19, s20, s21, s22, s23, s24, s25, s26, s27, s28, s29, s30, s31, s32, s33, s34, s35, s36, s37, s38, s39, s40, s41, s42, s43, s44, s45, s46, s47, s48, s49, s50, s51, s52, s53, s54, s55, s56, s57, s58, s59, s60, s61, s62, s63, s64, s65, s66, s67, s68, s69, s70, s71, s72, s73, s74, s75, s76, s77, s78, s79, s80, s81, s82, s83, s84, s85, s86, s87, s88, s89, s90, s91, s92] [] w = some r :=
  loopN_of (B := s10B0) (R := s10R0) (n := 93) (live := [0, 1, 4, 5, 6, 7]) (fun xs w g y hl h => match xs, hl, h with | [x0, x1, x4, x5, x6, x7], _, h => (s10B0eq x0 x1 x4 x5 x6 x7 w g []).trans h) (by kernel_rfl) (s10R0of) (fun i => ([s0, s1, s2, s3, s4, s5, s6, s7, s8, s9, s10, s11, s12, s13, s14, s15, s16, s17, s18, s19, s20, s21, s22, s23, s24, s25, s26, s27, s28, s29, s30, s31, s32, s33, s34, s35, s36, s37, s38, s39, s40, s41, s42, s43, s44, s45, s46, s47, s48, s49, s50, s51, s52, s53, s54, s55, s56, s57, s58, s59, s60, s61, s62, s63, s64, s65, s66, s67, s68, s69, s70, s71, s72, s73, s74, s75, s76, s77, s78, s79, s80, s81, s82, s83, s84, s85, s86, s87, s88, s89, s90, s91, s92] : List Value).getD i undef) (by kernel_rfl) rfl h
theorem s10eq (x0 x1 : Value) (w : World) : evK Try.prog 10 none (bodyOf Try.f10) none _ { tmps := (([x0, x1] : List Value) ++ List.replicate (93 - 2) undef).toArray, defers := [] } w (leaveK Try.prog Try.f10) = s10raw x0 x1 w := by kernel_rfl
theorem c10 {x0 x1 : Value} {w : World} {r : Value × World} (h : s10 x0 x1 w = some r) : C Try.prog 10 #[x0, x1] w = some r :=
  C_ev follows_all drawLaw (by kernel_rfl) Try.func10 (by rfl) ((s10eq x0 x1 w).trans (show s10raw x0 x1 w = some r from (Ev.bind_mono fun (r314 : Value × World) => (s10L0of)) h))
theorem e10 {x0 x1 : Value} {w : World} {Q : Value × World → Prop} (h : Brings (s10 x0 x1 w) Q) : Brings (Xcall Try.prog (Value.func (Fn.func 10) #[] #[]) #[x0, x1] w) Q :=
  h.call (Xcall_fn Try.func10 (by decide +kernel) (by rfl) _ _ _ w) fun _ h => c10 h

/-! lychgate/lychgatelaw06.play -/
noncomputable def s11K0 : Exit → Act → World → Option (Value × World) := seqK (fun a w => evK Try.prog 11 none (nav [1, 1, 1, 1] (bodyOf Try.f11)) none _ a w (leaveK Try.prog Try.f11)) (leaveK Try.prog Try.f11)
noncomputable def s11K1 : Exit → Act → World → Option (Value × World) := blockK 0 s11K0
noncomputable def s11L0 (s : List Value) (d : List Deferred) (w : World) : Option (Value × World) := loopN Try.prog 11 none (nav [1, 1, 1, 0, 1, 0, 0] (bodyOf Try.f11)) s11K1 s d w
noncomputable def s11B0 : List Value → World → Option (Exit × List Value × World)
  | [x1, x4, x5, x6, x8, x9, x10], w =>
    (Qlen Try.prog #[22] 3 #[x1] w).bind fun v366 =>
    (Qbin Try.prog Go.BinOp.lss 3 x10 v366).bind fun v367 =>
    (guardQ v367 true (Qbin Try.prog Go.BinOp.lss 3 (gv (isB v367 true) x10) (Go.Value.int Go.IntKind.i64 100))).bind fun v368 =>
    (Qpick v367 v368 (Go.Value.bool false)).bind fun v369 =>
    condK v369 (
      (QindexAddr Try.prog 22 x1 x10 w).bind fun v370 =>
      (Qload Try.prog 44 v370 w).bind fun v371 =>
      (Xcall Try.prog (Value.func (Fn.func 24) #[] #[]) #[x8, x9, v371] w).bind fun r372 =>
      (Qun Go.UnOp.not r372.1).bind fun v373 =>
      condK v373 (
        some (Exit.ret, [x1, x8, x9, (Go.Value.bool false), x8, x9, x10], r372.2)
      ) (
        (Qbin Try.prog Go.BinOp.add 3 x10 (Go.Value.int Go.IntKind.i64 1)).bind fun v374 =>
        some (Exit.normal, [x1, x4, x5, x6, x8, x9, v374], r372.2)
      )
    ) (
      some ((Exit.exit 0), [x1, x4, x5, x6, x8, x9, x10], w)
    )
  | _, _ => none
noncomputable def s11R0 : Exit → List Value → World → Option (Value × World)
  | (Exit.exit 0), [_, _, _, _, x8, x9, _], w =>
    some ((Value.tuple #[x8, x9, (Go.Value.bool true)]), w)
  | Exit.ret, [_, x4, x5, x6, _, _, _], w =>
    some ((Value.tuple #[x4, x5, x6]), w)
  | _, _, _ => none
noncomputable def s11raw (x0 x1 : Value) (w : World) : Option (Value × World) :=
  (Qconv Try.prog 5 3 x0).bind fun v361 =>
  (Qbin Try.prog Go.BinOp.rem 3 v361 (Go.Value.int Go.IntKind.i64 8)).bind fun v362 =>
  (Qbin Try.prog Go.BinOp.add 3 v362 (Go.Value.int Go.IntKind.i64 1)).bind fun v363 =>
  (Xcall Try.prog (Value.func (Fn.func 26) #[] #[]) #[v363] w).bind fun r364 =>
  (Xcall Try.prog (Value.func (Fn.func 27) #[] #[]) #[v363] r364.2).bind fun r365 =>
  s11L0 [x0, x1, undef, undef, (Go.Value.pointer none), (Go.Value.pointer none), (Go.Value.bool false), v363, r364.1, r365.1, (Go.Value.int Go.IntKind.i64 0), x0, v361, v362, v363, v363, r364.1, v363, r365.1, undef, undef, undef, undef, undef, undef, undef, undef, undef, undef, undef, undef, undef, undef, undef, undef, undef, undef, undef, undef, undef, undef] [] r365.2
noncomputable def s11 (x0 x1 : Value) (w : World) : Option (Value × World) :=
  (Qconv Try.prog 5 3 x0).bind fun v361 =>
  (Qbin Try.prog Go.BinOp.rem 3 v361 (Go.Value.int Go.IntKind.i64 8)).bind fun v362 =>
  (Qbin Try.prog Go.BinOp.add 3 v362 (Go.Value.int Go.IntKind.i64 1)).bind fun v363 =>
  (Xcall Try.prog (Value.func (Fn.func 26) #[] #[]) #[v363] w).bind fun r364 =>
  (Xcall Try.prog (Value.func (Fn.func 27) #[] #[]) #[v363] r364.2).bind fun r365 =>
  loopR s11B0 s11R0 [x1, (Go.Value.pointer none), (Go.Value.pointer none), (Go.Value.bool false), r364.1, r365.1, (Go.Value.int Go.IntKind.i64 0)] r365.2
theorem s11B0eq (x1 x4 x5 x6 x8 x9 x10 : Value) (w : World) (g : Nat → Value) (d : List Deferred) : evK Try.prog 11 none (nav [1, 1, 1, 0, 1, 0, 0] (bodyOf Try.f11)) none _ (frm 41 (setL [1, 4, 5, 6, 8, 9, 10] [x1, x4, x5, x6, x8, x9, x10] g) d) w (projK [1, 4, 5, 6, 8, 9, 10]) = s11B0 [x1, x4, x5, x6, x8, x9, x10] w := by kernel_rfl
theorem s11R0x0eq (x1 x4 x5 x6 x8 x9 x10 : Value) (g : Nat → Value) (w : World) : s11K1 (Exit.exit 0) (frm 41 (setL [1, 4, 5, 6, 8, 9, 10] [x1, x4, x5, x6, x8, x9, x10] g) []) w = s11R0 (Exit.exit 0) [x1, x4, x5, x6, x8, x9, x10] w := by kernel_rfl
theorem s11R0ret_eq (x1 x4 x5 x6 x8 x9 x10 : Value) (g : Nat → Value) (w : World) : s11K1 Exit.ret (frm 41 (setL [1, 4, 5, 6, 8, 9, 10] [x1, x4, x5, x6, x8, x9, x10] g) []) w = s11R0 Exit.ret [x1, x4, x5, x6, x8, x9, x10] w := by kernel_rfl
theorem s11R0of : ∀ (e : Exit) (xs : List Value) (w : World) (g : Nat → Value) (y : _), s11R0 e xs w = some y → s11K1 e (frm 41 (setL [1, 4, 5, 6, 8, 9, 10] xs g) []) w = some y := by
  intro e xs w g y h
  unfold s11R0 at h
  split at h
  · exact (s11R0x0eq _ _ _ _ _ _ _ g _).trans h
  · exact (s11R0ret_eq _ _ _ _ _ _ _ g _).trans h
  · cases h
set_option maxRecDepth 20000 in
theorem s11L0of {s0 s1 s2 s3 s4 s5 s6 s7 s8 s9 s10 s11 s12 s13 s14 s15 s16 s17 s18 s19 s20 s21 s22 s23 s24 s25 s26 s27 s28 s29 s30 s31 s32 s33 s34 s35 s36 s37 s38 s39 s40 : Value} {w : World} {r : _} (h : loopR s11B0 s11R0 [s1, s4, s5, s6, s8, s9, s10] w = some r) : s11L0 [s0, s1, s2, s3, s4, s5, s6, s7, s8, s9, s10, s11, s12, s13, s14, s15, s16, s17, s18, s19, s20, s21, s22, s23, s24, s25, s26, s27, s28, s29, s30, s31, s32, s33, s34, s35, s36, s37, s38, s39, s40] [] w = some r :=
  loopN_of (B := s11B0) (R := s11R0) (n := 41) (live := [1, 4, 5, 6, 8, 9, 10]) (fun xs w g y hl h => match xs, hl, h with | [x1, x4, x5, x6, x8, x9, x10], _, h => (s11B0eq x1 x4 x5 x6 x8 x9 x10 w g []).trans h) (by kernel_rfl) (s11R0of) (fun i => ([s0, s1, s2, s3, s4, s5, s6, s7, s8, s9, s10, s11, s12, s13, s14, s15, s16, s17, s18, s19, s20, s21, s22, s23, s24, s25, s26, s27, s28, s29, s30, s31, s32, s33, s34, s35, s36, s37, s38, s39, s40] : List Value).getD i undef) (by kernel_rfl) rfl h
theorem s11eq (x0 x1 : Value) (w : World) : evK Try.prog 11 none (bodyOf Try.f11) none _ { tmps := (([x0, x1] : List Value) ++ List.replicate (41 - 2) undef).toArray, defers := [] } w (leaveK Try.prog Try.f11) = s11raw x0 x1 w := by kernel_rfl
theorem c11 {x0 x1 : Value} {w : World} {r : Value × World} (h : s11 x0 x1 w = some r) : C Try.prog 11 #[x0, x1] w = some r :=
  C_ev follows_all drawLaw (by kernel_rfl) Try.func11 (by rfl) ((s11eq x0 x1 w).trans (show s11raw x0 x1 w = some r from (Ev.bind_mono fun (v361 : Value) => (Ev.bind_mono fun (v362 : Value) => (Ev.bind_mono fun (v363 : Value) => (Ev.bind_mono fun (r364 : Value × World) => (Ev.bind_mono fun (r365 : Value × World) => (s11L0of)))))) h))
theorem e11 {x0 x1 : Value} {w : World} {Q : Value × World → Prop} (h : Brings (s11 x0 x1 w) Q) : Brings (Xcall Try.prog (Value.func (Fn.func 11) #[] #[]) #[x0, x1] w) Q :=
  h.call (Xcall_fn Try.func11 (by decide +kernel) (by rfl) _ _ _ w) fun _ h => c11 h

/-! lychgate/lychgatelaw06.live -/
noncomputable def s12K0 : Exit → Act → World → Option (Value × World) := seqK (fun a w => evK Try.prog 12 none (nav [1, 1] (bodyOf Try.f12)) none _ a w (leaveK Try.prog Try.f12)) (leaveK Try.prog Try.f12)
noncomputable def s12J0 (s : List Value) (d : List Deferred) (w : World) : Option (Value × World) := s12K0 .normal ⟨s.toArray, d⟩ w
noncomputable def s12K1 : Exit → Act → World → Option (Value × World) := seqK (fun a w => evK Try.prog 12 none (nav [1, 1, 1] (bodyOf Try.f12)) none _ a w (leaveK Try.prog Try.f12)) (leaveK Try.prog Try.f12)
noncomputable def s12J1 (s : List Value) (d : List Deferred) (w : World) : Option (Value × World) := s12K1 .normal ⟨s.toArray, d⟩ w
noncomputable def s12K2 : Exit → Act → World → Option (Value × World) := seqK (fun a w => evK Try.prog 12 none (nav [1, 1, 1, 1] (bodyOf Try.f12)) none _ a w (leaveK Try.prog Try.f12)) (leaveK Try.prog Try.f12)
noncomputable def s12J2 (s : List Value) (d : List Deferred) (w : World) : Option (Value × World) := s12K2 .normal ⟨s.toArray, d⟩ w
noncomputable def s12K3 : Exit → Act → World → Option (Value × World) := seqK (fun a w => evK Try.prog 12 none (nav [1, 1, 1, 1, 1] (bodyOf Try.f12)) none _ a w (leaveK Try.prog Try.f12)) (leaveK Try.prog Try.f12)
noncomputable def s12J3 (s : List Value) (d : List Deferred) (w : World) : Option (Value × World) := s12K3 .normal ⟨s.toArray, d⟩ w
noncomputable def s12M3 (s1 s3 s4 s5 s6 : Value) (w : World) : Option (Value × World) :=
  (Qbin Try.prog Go.BinOp.eql 40 s4 (Go.Value.int Go.IntKind.i64 0)).bind fun v394 =>
  (guardQ v394 true (Qbin Try.prog Go.BinOp.eql 40 (gv (isB v394 true) s5) (Go.Value.int Go.IntKind.i64 0))).bind fun v395 =>
  (Qpick v394 v395 (Go.Value.bool false)).bind fun v396 =>
  (guardQ v396 true (Qlen Try.prog #[30] 3 #[(gv (isB v396 true) s6)] w.drew)).bind fun v397 =>
  (guardQ v396 true (Qbin Try.prog Go.BinOp.eql 3 v397 (Go.Value.int Go.IntKind.i64 1))).bind fun v398 =>
  (Qpick v396 v398 (Go.Value.bool false)).bind fun v399 =>
  (guardQ v399 true (QindexAddr Try.prog 30 (gv (isB v399 true) s6) (Go.Value.int Go.IntKind.i64 0) w.drew)).bind fun v400 =>
  (guardQ v399 true (Qload Try.prog 37 v400 w.drew)).bind fun v401 =>
  (guardQ v399 true (Qload Try.prog 37 s3 w.drew)).bind fun v402 =>
  (guardQ v399 true (Qbin Try.prog Go.BinOp.eql 37 v401 v402)).bind fun v403 =>
  (Qpick v399 v403 (Go.Value.bool false)).bind fun v404 =>
  (guardX v404 true w.drew (Xcall Try.prog (Value.func (Fn.func 16) #[] #[]) #[(gv (isB v404 true) s1)] w.drew)).bind fun r405 =>
  (guardQ v404 true (Qbin Try.prog Go.BinOp.eql 3 r405.1 (Go.Value.int Go.IntKind.i64 2))).bind fun v406 =>
  (Qpick v404 v406 (Go.Value.bool false)).bind fun v407 =>
  chkK True (
    some (v407, r405.2)
  )
noncomputable def s12M2raw (s0 s1 s2 s3 s4 s5 _s6 s7 s8 s9 s10 s11 s12 s13 s14 s15 _s16 _s17 s18 s19 s20 s21 s22 s23 s24 s25 s26 s27 s28 s29 s30 s31 s32 s33 s34 s35 s36 s37 s38 s39 s40 : Value) (w : World) : Option (Value × World) :=
  (Xcall Try.prog (Value.func (Fn.func 13) #[] #[]) #[s1, (Go.Value.int Go.IntKind.i64 4)] w).bind fun r392 =>
  s12J3 [s0, s1, s2, s3, s4, s5, r392.1, s7, s8, s9, s10, s11, s12, s13, s14, s15, s1, r392.1, s18, s19, s20, s21, s22, s23, s24, s25, s26, s27, s28, s29, s30, s31, s32, s33, s34, s35, s36, s37, s38, s39, s40] [] r392.2
noncomputable def s12M2 (s1 s3 s4 s5 : Value) (w : World) : Option (Value × World) :=
  (Xcall Try.prog (Value.func (Fn.func 13) #[] #[]) #[s1, (Go.Value.int Go.IntKind.i64 4)] w).bind fun r392 =>
  s12M3 s1 s3 s4 s5 r392.1 r392.2
noncomputable def s12M1raw (s0 s1 s2 s3 _s4 _s5 s6 s7 s8 s9 _s10 _s11 _s12 _s13 _s14 _s15 s16 s17 s18 s19 s20 s21 s22 s23 s24 s25 s26 s27 s28 s29 s30 s31 s32 s33 s34 s35 s36 s37 s38 s39 s40 : Value) (w : World) : Option (Value × World) :=
  (Qload Try.prog 37 s2 w.drew).bind fun v388 =>
  (Xcall Try.prog (Value.func (Fn.func 17) #[] #[]) #[s1, v388, (Go.Value.int Go.IntKind.i64 1), (Go.Value.int Go.IntKind.i64 5)] w.drew).bind fun r389 =>
  (Qload Try.prog 37 s3 r389.2).bind fun v390 =>
  (Xcall Try.prog (Value.func (Fn.func 17) #[] #[]) #[s1, v390, (Go.Value.int Go.IntKind.i64 2), (Go.Value.int Go.IntKind.i64 3)] r389.2).bind fun r391 =>
  chkK ((Qload Try.prog 37 s3 w.drew = some v390 ∧ Qload Try.prog 37 s3 r389.2 = some v390) ∧ True) (
    s12J2 [s0, s1, s2, s3, r389.1, r391.1, s6, s7, s8, s9, s1, v388, r389.1, s1, v390, r391.1, s16, s17, s18, s19, s20, s21, s22, s23, s24, s25, s26, s27, s28, s29, s30, s31, s32, s33, s34, s35, s36, s37, s38, s39, s40] [] r391.2
  )
noncomputable def s12M1 (s1 s2 s3 : Value) (w : World) : Option (Value × World) :=
  (Qload Try.prog 37 s2 w.drew).bind fun v388 =>
  (Xcall Try.prog (Value.func (Fn.func 17) #[] #[]) #[s1, v388, (Go.Value.int Go.IntKind.i64 1), (Go.Value.int Go.IntKind.i64 5)] w.drew).bind fun r389 =>
  (Qload Try.prog 37 s3 r389.2).bind fun v390 =>
  (Xcall Try.prog (Value.func (Fn.func 17) #[] #[]) #[s1, v390, (Go.Value.int Go.IntKind.i64 2), (Go.Value.int Go.IntKind.i64 3)] r389.2).bind fun r391 =>
  chkK ((Qload Try.prog 37 s3 w.drew = some v390 ∧ Qload Try.prog 37 s3 r389.2 = some v390) ∧ True) (
    s12M2 s1 s3 r389.1 r391.1 r391.2
  )
noncomputable def s12M0raw (s0 s1 _s2 _s3 s4 s5 s6 s7 _s8 _s9 s10 s11 s12 s13 s14 s15 s16 s17 s18 s19 s20 s21 s22 s23 s24 s25 s26 s27 s28 s29 s30 s31 s32 s33 s34 s35 s36 s37 s38 s39 s40 : Value) (w : World) : Option (Value × World) :=
  (Qbuild Try.prog 37 #[(1, (Go.Value.int Go.IntKind.u32 1))] w).bind fun v376 =>
  (Qbuild Try.prog 37 #[(1, (Go.Value.int Go.IntKind.u32 2))] w).bind fun v377 =>
  (Xalloc Try.prog 37 w).bind fun r378 =>
  (Xalloc Try.prog 37 r378.2).bind fun r379 =>
  (Xstore Try.prog 37 r378.1 v376 r379.2).bind fun r380 =>
  (Xstore Try.prog 37 r379.1 v377 r380.2).bind fun r381 =>
  s12J1 [s0, s1, r378.1, r379.1, s4, s5, s6, s7, v376, v377, s10, s11, s12, s13, s14, s15, s16, s17, s18, s19, s20, s21, s22, s23, s24, s25, s26, s27, s28, s29, s30, s31, s32, s33, s34, s35, s36, s37, s38, s39, s40] [] r381.2
noncomputable def s12M0 (s1 : Value) (w : World) : Option (Value × World) :=
  (Qbuild Try.prog 37 #[(1, (Go.Value.int Go.IntKind.u32 1))] w).bind fun v376 =>
  (Qbuild Try.prog 37 #[(1, (Go.Value.int Go.IntKind.u32 2))] w).bind fun v377 =>
  (Xalloc Try.prog 37 w).bind fun r378 =>
  (Xalloc Try.prog 37 r378.2).bind fun r379 =>
  (Xstore Try.prog 37 r378.1 v376 r379.2).bind fun r380 =>
  (Xstore Try.prog 37 r379.1 v377 r380.2).bind fun r381 =>
  s12M1 s1 r378.1 r379.1 r381.2
noncomputable def s12raw (w : World) : Option (Value × World) :=
  (Xcall Try.prog (Value.func (Fn.func 26) #[] #[]) #[(Go.Value.int Go.IntKind.i64 4)] w).bind fun r375 =>
  s12J0 [(Go.Value.bool false), r375.1, undef, undef, undef, undef, undef, r375.1, undef, undef, undef, undef, undef, undef, undef, undef, undef, undef, undef, undef, undef, undef, undef, undef, undef, undef, undef, undef, undef, undef, undef, undef, undef, undef, undef, undef, undef, undef, undef, undef, undef] [] r375.2
noncomputable def s12 (w : World) : Option (Value × World) :=
  (Xcall Try.prog (Value.func (Fn.func 26) #[] #[]) #[(Go.Value.int Go.IntKind.i64 4)] w).bind fun r375 =>
  s12M0 r375.1 r375.2
theorem s12J3eq (s0 s1 s2 s3 s4 s5 s6 s7 s8 s9 s10 s11 s12 s13 s14 s15 s16 s17 s18 s19 s20 s21 s22 s23 s24 s25 s26 s27 s28 s29 s30 s31 s32 s33 s34 s35 s36 s37 s38 s39 s40 : Value) (w : World) : s12J3 [s0, s1, s2, s3, s4, s5, s6, s7, s8, s9, s10, s11, s12, s13, s14, s15, s16, s17, s18, s19, s20, s21, s22, s23, s24, s25, s26, s27, s28, s29, s30, s31, s32, s33, s34, s35, s36, s37, s38, s39, s40] [] w = s12M3 s1 s3 s4 s5 s6 w := (show s12J3 [s0, s1, s2, s3, s4, s5, s6, s7, s8, s9, s10, s11, s12, s13, s14, s15, s16, s17, s18, s19, s20, s21, s22, s23, s24, s25, s26, s27, s28, s29, s30, s31, s32, s33, s34, s35, s36, s37, s38, s39, s40] [] w = evK Try.prog 12 none (nav [1, 1, 1, 1, 1] (bodyOf Try.f12)) none _ ⟨[s0, s1, s2, s3, s4, s5, s6, s7, s8, s9, s10, s11, s12, s13, s14, s15, s16, s17, s18, s19, s20, s21, s22, s23, s24, s25, s26, s27, s28, s29, s30, s31, s32, s33, s34, s35, s36, s37, s38, s39, s40].toArray, []⟩ w (leaveK Try.prog Try.f12) from by kernel_rfl).trans (by kernel_rfl)
theorem s12J3of {s0 s1 s2 s3 s4 s5 s6 s7 s8 s9 s10 s11 s12 s13 s14 s15 s16 s17 s18 s19 s20 s21 s22 s23 s24 s25 s26 s27 s28 s29 s30 s31 s32 s33 s34 s35 s36 s37 s38 s39 s40 : Value} {w : World} {r : _} (h : s12M3 s1 s3 s4 s5 s6 w = some r) : s12J3 [s0, s1, s2, s3, s4, s5, s6, s7, s8, s9, s10, s11, s12, s13, s14, s15, s16, s17, s18, s19, s20, s21, s22, s23, s24, s25, s26, s27, s28, s29, s30, s31, s32, s33, s34, s35, s36, s37, s38, s39, s40] [] w = some r :=
  ((s12J3eq s0 s1 s2 s3 s4 s5 s6 s7 s8 s9 s10 s11 s12 s13 s14 s15 s16 s17 s18 s19 s20 s21 s22 s23 s24 s25 s26 s27 s28 s29 s30 s31 s32 s33 s34 s35 s36 s37 s38 s39 s40 w).trans h)
theorem s12J2rg {β : Type} (K : Exit → Act → World → Option β) (s0 s1 s2 s3 s4 s5 s6 s7 s8 s9 s10 s11 s12 s13 s14 s15 s16 s17 s18 s19 s20 s21 s22 s23 s24 s25 s26 s27 s28 s29 s30 s31 s32 s33 s34 s35 s36 s37 s38 s39 s40 : Value) (w : World) : evK Try.prog 12 none (nav [1, 1, 1, 1, 0] (bodyOf Try.f12)) none _ ⟨[s0, s1, s2, s3, s4, s5, s6, s7, s8, s9, s10, s11, s12, s13, s14, s15, s16, s17, s18, s19, s20, s21, s22, s23, s24, s25, s26, s27, s28, s29, s30, s31, s32, s33, s34, s35, s36, s37, s38, s39, s40].toArray, []⟩ w K =
    (Xcall Try.prog (Value.func (Fn.func 13) #[] #[]) #[s1, (Go.Value.int Go.IntKind.i64 4)] w).bind fun r393 =>
    K Exit.normal ⟨[s0, s1, s2, s3, s4, s5, r393.1, s7, s8, s9, s10, s11, s12, s13, s14, s15, s1, r393.1, s18, s19, s20, s21, s22, s23, s24, s25, s26, s27, s28, s29, s30, s31, s32, s33, s34, s35, s36, s37, s38, s39, s40].toArray, []⟩ r393.2 := by kernel_rfl
theorem s12J2eq (s0 s1 s2 s3 s4 s5 s6 s7 s8 s9 s10 s11 s12 s13 s14 s15 s16 s17 s18 s19 s20 s21 s22 s23 s24 s25 s26 s27 s28 s29 s30 s31 s32 s33 s34 s35 s36 s37 s38 s39 s40 : Value) (w : World) : s12J2 [s0, s1, s2, s3, s4, s5, s6, s7, s8, s9, s10, s11, s12, s13, s14, s15, s16, s17, s18, s19, s20, s21, s22, s23, s24, s25, s26, s27, s28, s29, s30, s31, s32, s33, s34, s35, s36, s37, s38, s39, s40] [] w = s12M2raw s0 s1 s2 s3 s4 s5 s6 s7 s8 s9 s10 s11 s12 s13 s14 s15 s16 s17 s18 s19 s20 s21 s22 s23 s24 s25 s26 s27 s28 s29 s30 s31 s32 s33 s34 s35 s36 s37 s38 s39 s40 w := (show s12J2 [s0, s1, s2, s3, s4, s5, s6, s7, s8, s9, s10, s11, s12, s13, s14, s15, s16, s17, s18, s19, s20, s21, s22, s23, s24, s25, s26, s27, s28, s29, s30, s31, s32, s33, s34, s35, s36, s37, s38, s39, s40] [] w = seqK (fun a w => evK Try.prog 12 none (nav [1, 1, 1, 1] (bodyOf Try.f12)) none _ a w (leaveK Try.prog Try.f12)) (leaveK Try.prog Try.f12) .normal ⟨[s0, s1, s2, s3, s4, s5, s6, s7, s8, s9, s10, s11, s12, s13, s14, s15, s16, s17, s18, s19, s20, s21, s22, s23, s24, s25, s26, s27, s28, s29, s30, s31, s32, s33, s34, s35, s36, s37, s38, s39, s40].toArray, []⟩ w from by kernel_rfl).trans ((seqK_n (fun a w => evK Try.prog 12 none (nav [1, 1, 1, 1] (bodyOf Try.f12)) none _ a w (leaveK Try.prog Try.f12)) (leaveK Try.prog Try.f12) ⟨[s0, s1, s2, s3, s4, s5, s6, s7, s8, s9, s10, s11, s12, s13, s14, s15, s16, s17, s18, s19, s20, s21, s22, s23, s24, s25, s26, s27, s28, s29, s30, s31, s32, s33, s34, s35, s36, s37, s38, s39, s40].toArray, []⟩ w).trans ((show evK Try.prog 12 none (nav [1, 1, 1, 1] (bodyOf Try.f12)) none _ ⟨[s0, s1, s2, s3, s4, s5, s6, s7, s8, s9, s10, s11, s12, s13, s14, s15, s16, s17, s18, s19, s20, s21, s22, s23, s24, s25, s26, s27, s28, s29, s30, s31, s32, s33, s34, s35, s36, s37, s38, s39, s40].toArray, []⟩ w (leaveK Try.prog Try.f12) = evK Try.prog 12 none (nav [1, 1, 1, 1, 0] (bodyOf Try.f12)) none _ ⟨[s0, s1, s2, s3, s4, s5, s6, s7, s8, s9, s10, s11, s12, s13, s14, s15, s16, s17, s18, s19, s20, s21, s22, s23, s24, s25, s26, s27, s28, s29, s30, s31, s32, s33, s34, s35, s36, s37, s38, s39, s40].toArray, []⟩ w s12K3 from by kernel_rfl).trans (s12J2rg s12K3 s0 s1 s2 s3 s4 s5 s6 s7 s8 s9 s10 s11 s12 s13 s14 s15 s16 s17 s18 s19 s20 s21 s22 s23 s24 s25 s26 s27 s28 s29 s30 s31 s32 s33 s34 s35 s36 s37 s38 s39 s40 w)))
theorem s12J2of {s0 s1 s2 s3 s4 s5 s6 s7 s8 s9 s10 s11 s12 s13 s14 s15 s16 s17 s18 s19 s20 s21 s22 s23 s24 s25 s26 s27 s28 s29 s30 s31 s32 s33 s34 s35 s36 s37 s38 s39 s40 : Value} {w : World} {r : _} (h : s12M2 s1 s3 s4 s5 w = some r) : s12J2 [s0, s1, s2, s3, s4, s5, s6, s7, s8, s9, s10, s11, s12, s13, s14, s15, s16, s17, s18, s19, s20, s21, s22, s23, s24, s25, s26, s27, s28, s29, s30, s31, s32, s33, s34, s35, s36, s37, s38, s39, s40] [] w = some r :=
  ((s12J2eq s0 s1 s2 s3 s4 s5 s6 s7 s8 s9 s10 s11 s12 s13 s14 s15 s16 s17 s18 s19 s20 s21 s22 s23 s24 s25 s26 s27 s28 s29 s30 s31 s32 s33 s34 s35 s36 s37 s38 s39 s40 w).trans ((Ev.bind_mono fun (r392 : Value × World) => (s12J3of)) h))
theorem s12J1eq (s0 s1 s2 s3 s4 s5 s6 s7 s8 s9 s10 s11 s12 s13 s14 s15 s16 s17 s18 s19 s20 s21 s22 s23 s24 s25 s26 s27 s28 s29 s30 s31 s32 s33 s34 s35 s36 s37 s38 s39 s40 : Value) (w : World) : s12J1 [s0, s1, s2, s3, s4, s5, s6, s7, s8, s9, s10, s11, s12, s13, s14, s15, s16, s17, s18, s19, s20, s21, s22, s23, s24, s25, s26, s27, s28, s29, s30, s31, s32, s33, s34, s35, s36, s37, s38, s39, s40] [] w = s12M1raw s0 s1 s2 s3 s4 s5 s6 s7 s8 s9 s10 s11 s12 s13 s14 s15 s16 s17 s18 s19 s20 s21 s22 s23 s24 s25 s26 s27 s28 s29 s30 s31 s32 s33 s34 s35 s36 s37 s38 s39 s40 w := (show s12J1 [s0, s1, s2, s3, s4, s5, s6, s7, s8, s9, s10, s11, s12, s13, s14, s15, s16, s17, s18, s19, s20, s21, s22, s23, s24, s25, s26, s27, s28, s29, s30, s31, s32, s33, s34, s35, s36, s37, s38, s39, s40] [] w = evK Try.prog 12 none (nav [1, 1, 1] (bodyOf Try.f12)) none _ ⟨[s0, s1, s2, s3, s4, s5, s6, s7, s8, s9, s10, s11, s12, s13, s14, s15, s16, s17, s18, s19, s20, s21, s22, s23, s24, s25, s26, s27, s28, s29, s30, s31, s32, s33, s34, s35, s36, s37, s38, s39, s40].toArray, []⟩ w (leaveK Try.prog Try.f12) from by kernel_rfl).trans (by kernel_rfl)
theorem s12J1of {s0 s1 s2 s3 s4 s5 s6 s7 s8 s9 s10 s11 s12 s13 s14 s15 s16 s17 s18 s19 s20 s21 s22 s23 s24 s25 s26 s27 s28 s29 s30 s31 s32 s33 s34 s35 s36 s37 s38 s39 s40 : Value} {w : World} {r : _} (h : s12M1 s1 s2 s3 w = some r) : s12J1 [s0, s1, s2, s3, s4, s5, s6, s7, s8, s9, s10, s11, s12, s13, s14, s15, s16, s17, s18, s19, s20, s21, s22, s23, s24, s25, s26, s27, s28, s29, s30, s31, s32, s33, s34, s35, s36, s37, s38, s39, s40] [] w = some r :=
  ((s12J1eq s0 s1 s2 s3 s4 s5 s6 s7 s8 s9 s10 s11 s12 s13 s14 s15 s16 s17 s18 s19 s20 s21 s22 s23 s24 s25 s26 s27 s28 s29 s30 s31 s32 s33 s34 s35 s36 s37 s38 s39 s40 w).trans ((Ev.bind_mono fun (v388 : Value) => (Ev.bind_mono fun (r389 : Value × World) => (Ev.bind_mono fun (v390 : Value) => (Ev.bind_mono fun (r391 : Value × World) => (chkK_mono (s12J2of)))))) h))
theorem s12J0rg {β : Type} (K : Exit → Act → World → Option β) (s0 s1 s2 s3 s4 s5 s6 s7 s8 s9 s10 s11 s12 s13 s14 s15 s16 s17 s18 s19 s20 s21 s22 s23 s24 s25 s26 s27 s28 s29 s30 s31 s32 s33 s34 s35 s36 s37 s38 s39 s40 : Value) (w : World) : evK Try.prog 12 none (nav [1, 1, 0] (bodyOf Try.f12)) none _ ⟨[s0, s1, s2, s3, s4, s5, s6, s7, s8, s9, s10, s11, s12, s13, s14, s15, s16, s17, s18, s19, s20, s21, s22, s23, s24, s25, s26, s27, s28, s29, s30, s31, s32, s33, s34, s35, s36, s37, s38, s39, s40].toArray, []⟩ w K =
    (Qbuild Try.prog 37 #[(1, (Go.Value.int Go.IntKind.u32 1))] w).bind fun v382 =>
    (Qbuild Try.prog 37 #[(1, (Go.Value.int Go.IntKind.u32 2))] w).bind fun v383 =>
    (Xalloc Try.prog 37 w).bind fun r384 =>
    (Xalloc Try.prog 37 r384.2).bind fun r385 =>
    (Xstore Try.prog 37 r384.1 v382 r385.2).bind fun r386 =>
    (Xstore Try.prog 37 r385.1 v383 r386.2).bind fun r387 =>
    K Exit.normal ⟨[s0, s1, r384.1, r385.1, s4, s5, s6, s7, v382, v383, s10, s11, s12, s13, s14, s15, s16, s17, s18, s19, s20, s21, s22, s23, s24, s25, s26, s27, s28, s29, s30, s31, s32, s33, s34, s35, s36, s37, s38, s39, s40].toArray, []⟩ r387.2 := by kernel_rfl
theorem s12J0eq (s0 s1 s2 s3 s4 s5 s6 s7 s8 s9 s10 s11 s12 s13 s14 s15 s16 s17 s18 s19 s20 s21 s22 s23 s24 s25 s26 s27 s28 s29 s30 s31 s32 s33 s34 s35 s36 s37 s38 s39 s40 : Value) (w : World) : s12J0 [s0, s1, s2, s3, s4, s5, s6, s7, s8, s9, s10, s11, s12, s13, s14, s15, s16, s17, s18, s19, s20, s21, s22, s23, s24, s25, s26, s27, s28, s29, s30, s31, s32, s33, s34, s35, s36, s37, s38, s39, s40] [] w = s12M0raw s0 s1 s2 s3 s4 s5 s6 s7 s8 s9 s10 s11 s12 s13 s14 s15 s16 s17 s18 s19 s20 s21 s22 s23 s24 s25 s26 s27 s28 s29 s30 s31 s32 s33 s34 s35 s36 s37 s38 s39 s40 w := (show s12J0 [s0, s1, s2, s3, s4, s5, s6, s7, s8, s9, s10, s11, s12, s13, s14, s15, s16, s17, s18, s19, s20, s21, s22, s23, s24, s25, s26, s27, s28, s29, s30, s31, s32, s33, s34, s35, s36, s37, s38, s39, s40] [] w = seqK (fun a w => evK Try.prog 12 none (nav [1, 1] (bodyOf Try.f12)) none _ a w (leaveK Try.prog Try.f12)) (leaveK Try.prog Try.f12) .normal ⟨[s0, s1, s2, s3, s4, s5, s6, s7, s8, s9, s10, s11, s12, s13, s14, s15, s16, s17, s18, s19, s20, s21, s22, s23, s24, s25, s26, s27, s28, s29, s30, s31, s32, s33, s34, s35, s36, s37, s38, s39, s40].toArray, []⟩ w from by kernel_rfl).trans ((seqK_n (fun a w => evK Try.prog 12 none (nav [1, 1] (bodyOf Try.f12)) none _ a w (leaveK Try.prog Try.f12)) (leaveK Try.prog Try.f12) ⟨[s0, s1, s2, s3, s4, s5, s6, s7, s8, s9, s10, s11, s12, s13, s14, s15, s16, s17, s18, s19, s20, s21, s22, s23, s24, s25, s26, s27, s28, s29, s30, s31, s32, s33, s34, s35, s36, s37, s38, s39, s40].toArray, []⟩ w).trans ((show evK Try.prog 12 none (nav [1, 1] (bodyOf Try.f12)) none _ ⟨[s0, s1, s2, s3, s4, s5, s6, s7, s8, s9, s10, s11, s12, s13, s14, s15, s16, s17, s18, s19, s20, s21, s22, s23, s24, s25, s26, s27, s28, s29, s30, s31, s32, s33, s34, s35, s36, s37, s38, s39, s40].toArray, []⟩ w (leaveK Try.prog Try.f12) = evK Try.prog 12 none (nav [1, 1, 0] (bodyOf Try.f12)) none _ ⟨[s0, s1, s2, s3, s4, s5, s6, s7, s8, s9, s10, s11, s12, s13, s14, s15, s16, s17, s18, s19, s20, s21, s22, s23, s24, s25, s26, s27, s28, s29, s30, s31, s32, s33, s34, s35, s36, s37, s38, s39, s40].toArray, []⟩ w s12K1 from by kernel_rfl).trans (s12J0rg s12K1 s0 s1 s2 s3 s4 s5 s6 s7 s8 s9 s10 s11 s12 s13 s14 s15 s16 s17 s18 s19 s20 s21 s22 s23 s24 s25 s26 s27 s28 s29 s30 s31 s32 s33 s34 s35 s36 s37 s38 s39 s40 w)))
theorem s12J0of {s0 s1 s2 s3 s4 s5 s6 s7 s8 s9 s10 s11 s12 s13 s14 s15 s16 s17 s18 s19 s20 s21 s22 s23 s24 s25 s26 s27 s28 s29 s30 s31 s32 s33 s34 s35 s36 s37 s38 s39 s40 : Value} {w : World} {r : _} (h : s12M0 s1 w = some r) : s12J0 [s0, s1, s2, s3, s4, s5, s6, s7, s8, s9, s10, s11, s12, s13, s14, s15, s16, s17, s18, s19, s20, s21, s22, s23, s24, s25, s26, s27, s28, s29, s30, s31, s32, s33, s34, s35, s36, s37, s38, s39, s40] [] w = some r :=
  ((s12J0eq s0 s1 s2 s3 s4 s5 s6 s7 s8 s9 s10 s11 s12 s13 s14 s15 s16 s17 s18 s19 s20 s21 s22 s23 s24 s25 s26 s27 s28 s29 s30 s31 s32 s33 s34 s35 s36 s37 s38 s39 s40 w).trans ((Ev.bind_mono fun (v376 : Value) => (Ev.bind_mono fun (v377 : Value) => (Ev.bind_mono fun (r378 : Value × World) => (Ev.bind_mono fun (r379 : Value × World) => (Ev.bind_mono fun (r380 : Value × World) => (Ev.bind_mono fun (r381 : Value × World) => (s12J1of))))))) h))
theorem s12eq (w : World) : evK Try.prog 12 none (bodyOf Try.f12) none _ { tmps := (([] : List Value) ++ List.replicate (41 - 0) undef).toArray, defers := [] } w (leaveK Try.prog Try.f12) = s12raw  w := by kernel_rfl
theorem c12 {w : World} {r : Value × World} (h : s12  w = some r) : C Try.prog 12 #[] w = some r :=
  C_ev follows_all drawLaw (by kernel_rfl) Try.func12 (by rfl) ((s12eq  w).trans (show s12raw  w = some r from (Ev.bind_mono fun (r375 : Value × World) => (s12J0of)) h))
theorem e12 {w : World} {Q : Value × World → Prop} (h : Brings (s12  w) Q) : Brings (Xcall Try.prog (Value.func (Fn.func 12) #[] #[]) #[] w) Q :=
  h.call (Xcall_fn Try.func12 (by decide +kernel) (by rfl) _ _ _ w) fun _ h => c12 h

/-! (*lychgate/table.Table).Due -/
noncomputable def s13K0 : Exit → Act → World → Option (Value × World) := seqK (fun a w => evK Try.prog 13 none (nav [1, 1, 1, 1] (bodyOf Try.f13)) none _ a w (leaveK Try.prog Try.f13)) (leaveK Try.prog Try.f13)
noncomputable def s13K1 : Exit → Act → World → Option (Value × World) := blockK 0 s13K0
noncomputable def s13K2 : Exit → Act → World → Option (Value × World) := seqK (fun a w => evK Try.prog 13 none (nav [1, 1, 1, 1, 1, 1, 1] (bodyOf Try.f13)) none _ a w (leaveK Try.prog Try.f13)) (leaveK Try.prog Try.f13)
noncomputable def s13K3 : Exit → Act → World → Option (Value × World) := blockK 2 s13K2
noncomputable def s13L1 (s : List Value) (d : List Deferred) (w : World) : Option (Value × World) := loopN Try.prog 13 none (nav [1, 1, 1, 1, 1, 1, 0, 1, 0, 0] (bodyOf Try.f13)) s13K3 s d w
noncomputable def s13B1 : List Value → World → Option (Exit × List Value × World)
  | [x7, x27, x28, x29], w =>
    (Qbin Try.prog Go.BinOp.lss 3 x29 x28).bind fun v430 =>
    condK v430 (
      (QindexAddr Try.prog 62 x27 x29 w).bind fun v431 =>
      (Qload Try.prog 73 v431 w).bind fun v432 =>
      (Xalloc Try.prog 73 w).bind fun r433 =>
      (Xstore Try.prog 73 r433.1 v432 r433.2).bind fun r434 =>
      (QfieldAddr Try.prog 73 r433.1 0).bind fun v435 =>
      (Qload Try.prog 37 v435 r434.2).bind fun v436 =>
      (XbuildSlice Try.prog 30 1 #[(0, v436)] r434.2).bind fun r437 =>
      (Xbi Try.prog Go.Builtin.append #[30, 30] 30 #[x7, r437.1] r437.2).bind fun r438 =>
      (Qbin Try.prog Go.BinOp.add 3 x29 (Go.Value.int Go.IntKind.i64 1)).bind fun v439 =>
      some (Exit.normal, [r438.1, x27, x28, v439], r438.2)
    ) (
      some ((Exit.exit 2), [x7, x27, x28, x29], w)
    )
  | _, _ => none
noncomputable def s13R1 (d : List Deferred) : Exit → List Value → World → Option (Value × World)
  | (Exit.exit 2), [x7, _, _, _], w =>
    (takeAll Try.prog d w).bind fun w_ => some (x7, w_)
  | _, _, _ => none
noncomputable def s13G0R (s5 : Value) (d : List Deferred) (w : World) : Exit → Option (Value × World)
  | Exit.normal =>
    (Qload Try.prog 62 s5 w).bind fun v414 =>
    (Xcall Try.prog (Value.func (Fn.func 29) #[] #[]) #[v414, (Value.func (Fn.func 30) #[] #[])] w).bind fun r415 =>
    (Qload Try.prog 62 s5 r415.2).bind fun v416 =>
    (Qlen Try.prog #[62] 3 #[v416] r415.2).bind fun v417 =>
    loopR s13B1 (s13R1 d) [(Go.Value.slice none 0 0), v416, v417, (Go.Value.int Go.IntKind.i64 0)] r415.2
  | _ => none
noncomputable def s13G0Rnrmraw (s0 s1 s2 s3 s4 s5 s6 _s7 s8 s9 s10 s11 s12 s13 s14 s15 s16 s17 s18 s19 s20 s21 s22 s23 s24 _s25 _s26 _s27 _s28 _s29 s30 s31 s32 s33 s34 s35 s36 s37 s38 s39 : Value) (d : List Deferred) (w : World) : Option (Value × World) :=
  (Qload Try.prog 62 s5 w).bind fun v414 =>
  (Xcall Try.prog (Value.func (Fn.func 29) #[] #[]) #[v414, (Value.func (Fn.func 30) #[] #[])] w).bind fun r415 =>
  (Qload Try.prog 62 s5 r415.2).bind fun v416 =>
  (Qlen Try.prog #[62] 3 #[v416] r415.2).bind fun v417 =>
  s13L1 [s0, s1, s2, s3, s4, s5, s6, (Go.Value.slice none 0 0), s8, s9, s10, s11, s12, s13, s14, s15, s16, s17, s18, s19, s20, s21, s22, s23, s24, v414, r415.1, v416, v417, (Go.Value.int Go.IntKind.i64 0), s30, s31, s32, s33, s34, s35, s36, s37, s38, s39] d r415.2
noncomputable def s13G0Q (l : Nat) (s3 s5 s16 : Value) (w : World) : Option (Value × World) :=
  (Xalloc Try.prog 73 w).bind fun r418 =>
  (Xstore Try.prog 73 r418.1 s16 r418.2).bind fun r419 =>
  begK Try.prog l r419.2 fun w420 =>
  (QfieldAddr Try.prog 73 r418.1 2).bind fun v421 =>
  (Qload Try.prog 3 v421 w420).bind fun v422 =>
  (Qload Try.prog 3 s3 w420).bind fun v423 =>
  (Qbin Try.prog Go.BinOp.leq 3 v422 v423).bind fun v424 =>
  condK v424 (
    (Qload Try.prog 62 s5 w420).bind fun v425 =>
    (Qload Try.prog 73 r418.1 w420).bind fun v426 =>
    (XbuildSlice Try.prog 62 1 #[(0, v426)] w420).bind fun r427 =>
    (Xbi Try.prog Go.Builtin.append #[62, 62] 62 #[v425, r427.1] r427.2).bind fun r428 =>
    (Xstore Try.prog 62 s5 r428.1 r428.2).bind fun r429 =>
    endR Try.prog l none r429.2
  ) (
    endR Try.prog l none w420
  )
noncomputable def s13raw (x0 x1 : Value) (w : World) : Option (Value × World) :=
  (Xbox Try.prog 3 x1 w).bind fun r408 =>
  (Qbin Try.prog Go.BinOp.eql 25 x0 (Go.Value.pointer none)).bind fun v409 =>
  condK v409 (
    some ((Go.Value.slice none 0 0), r408.2)
  ) (
    (Xalloc Try.prog 62 r408.2).bind fun r410 =>
    (Qnil x0).bind fun v411 =>
    (QfieldAddr Try.prog 70 v411 0).bind fun v412 =>
    (Xcall Try.prog (Value.func (Fn.func 28) #[] #[]) #[v412] r410.2).bind fun r413 =>
    (evRange Try.prog 13 none r413.1 #[16] (nav [1, 1, 1, 0, 1, 0, 0] (bodyOf Try.f13)) (nav [1, 1, 1, 0, 1, 0, 1] (bodyOf Try.f13)) ⟨[x0, x1, undef, r408.1, (Go.Value.slice none 0 0), r410.1, undef, undef, undef, undef, x0, v409, x0, v411, v412, r413.1, undef, undef, undef, undef, undef, undef, undef, undef, undef, undef, undef, undef, undef, undef, undef, undef, undef, undef, undef, undef, undef, undef, undef, undef].toArray, []⟩ r413.2).bind fun x => s13K1 x.1 x.2.1 x.2.2
  )
noncomputable def s13 (x0 x1 : Value) (w : World) : Option (Value × World) :=
  (Xbox Try.prog 3 x1 w).bind fun r408 =>
  (Qbin Try.prog Go.BinOp.eql 25 x0 (Go.Value.pointer none)).bind fun v409 =>
  condK v409 (
    some ((Go.Value.slice none 0 0), r408.2)
  ) (
    (Xalloc Try.prog 62 r408.2).bind fun r410 =>
    (Qnil x0).bind fun v411 =>
    (QfieldAddr Try.prog 70 v411 0).bind fun v412 =>
    (Xcall Try.prog (Value.func (Fn.func 28) #[] #[]) #[v412] r410.2).bind fun r413 =>
    (evRange Try.prog 13 none r413.1 #[16] (nav [1, 1, 1, 0, 1, 0, 0] (bodyOf Try.f13)) (nav [1, 1, 1, 0, 1, 0, 1] (bodyOf Try.f13)) ⟨[x0, x1, undef, r408.1, (Go.Value.slice none 0 0), r410.1, undef, undef, undef, undef, x0, v409, x0, v411, v412, r413.1, undef, undef, undef, undef, undef, undef, undef, undef, undef, undef, undef, undef, undef, undef, undef, undef, undef, undef, undef, undef, undef, undef, undef, undef].toArray, []⟩ r413.2).bind fun x => s13G0R r410.1 x.2.1.defers x.2.2 x.1
  )
theorem s13B1eq (x7 x27 x28 x29 : Value) (w : World) (g : Nat → Value) (d : List Deferred) : evK Try.prog 13 none (nav [1, 1, 1, 1, 1, 1, 0, 1, 0, 0] (bodyOf Try.f13)) none _ (frm 40 (setL [7, 27, 28, 29] [x7, x27, x28, x29] g) d) w (projK [7, 27, 28, 29]) = s13B1 [x7, x27, x28, x29] w := by kernel_rfl
theorem s13R1x2eq (x7 x27 x28 x29 : Value) (g : Nat → Value) (d : List Deferred) (w : World) : s13K3 (Exit.exit 2) (frm 40 (setL [7, 27, 28, 29] [x7, x27, x28, x29] g) d) w = s13R1 d (Exit.exit 2) [x7, x27, x28, x29] w := by kernel_rfl
theorem s13R1of (d : List Deferred) : ∀ (e : Exit) (xs : List Value) (w : World) (g : Nat → Value) (y : _), s13R1 d e xs w = some y → s13K3 e (frm 40 (setL [7, 27, 28, 29] xs g) d) w = some y := by
  intro e xs w g y h
  unfold s13R1 at h
  split at h
  · exact (s13R1x2eq _ _ _ _ g d _).trans h
  · cases h
set_option maxRecDepth 20000 in
theorem s13L1of {s0 s1 s2 s3 s4 s5 s6 s7 s8 s9 s10 s11 s12 s13 s14 s15 s16 s17 s18 s19 s20 s21 s22 s23 s24 s25 s26 s27 s28 s29 s30 s31 s32 s33 s34 s35 s36 s37 s38 s39 : Value} {d : List Deferred} {w : World} {r : _} (h : loopR s13B1 (s13R1 d) [s7, s27, s28, s29] w = some r) : s13L1 [s0, s1, s2, s3, s4, s5, s6, s7, s8, s9, s10, s11, s12, s13, s14, s15, s16, s17, s18, s19, s20, s21, s22, s23, s24, s25, s26, s27, s28, s29, s30, s31, s32, s33, s34, s35, s36, s37, s38, s39] d w = some r :=
  loopN_of (B := s13B1) (R := (s13R1 d)) (n := 40) (live := [7, 27, 28, 29]) (fun xs w g y hl h => match xs, hl, h with | [x7, x27, x28, x29], _, h => (s13B1eq x7 x27 x28 x29 w g d).trans h) (by kernel_rfl) (s13R1of d) (fun i => ([s0, s1, s2, s3, s4, s5, s6, s7, s8, s9, s10, s11, s12, s13, s14, s15, s16, s17, s18, s19, s20, s21, s22, s23, s24, s25, s26, s27, s28, s29, s30, s31, s32, s33, s34, s35, s36, s37, s38, s39] : List Value).getD i undef) (by kernel_rfl) rfl h
theorem s13G0Rnrmeq (s0 s1 s2 s3 s4 s5 s6 s7 s8 s9 s10 s11 s12 s13 s14 s15 s16 s17 s18 s19 s20 s21 s22 s23 s24 s25 s26 s27 s28 s29 s30 s31 s32 s33 s34 s35 s36 s37 s38 s39 : Value) (d : List Deferred) (w : World) : s13K1 Exit.normal ⟨[s0, s1, s2, s3, s4, s5, s6, s7, s8, s9, s10, s11, s12, s13, s14, s15, s16, s17, s18, s19, s20, s21, s22, s23, s24, s25, s26, s27, s28, s29, s30, s31, s32, s33, s34, s35, s36, s37, s38, s39].toArray, d⟩ w = s13G0Rnrmraw s0 s1 s2 s3 s4 s5 s6 s7 s8 s9 s10 s11 s12 s13 s14 s15 s16 s17 s18 s19 s20 s21 s22 s23 s24 s25 s26 s27 s28 s29 s30 s31 s32 s33 s34 s35 s36 s37 s38 s39 d w := by kernel_rfl
theorem s13G0Rof {s0 s1 s2 s3 s4 s5 s6 s7 s8 s9 s10 s11 s12 s13 s14 s15 s16 s17 s18 s19 s20 s21 s22 s23 s24 s25 s26 s27 s28 s29 s30 s31 s32 s33 s34 s35 s36 s37 s38 s39 : Value} {d : List Deferred} {w : World} {e : Exit} {y : _} (h : s13G0R s5 d w e = some y) : s13K1 e ⟨[s0, s1, s2, s3, s4, s5, s6, s7, s8, s9, s10, s11, s12, s13, s14, s15, s16, s17, s18, s19, s20, s21, s22, s23, s24, s25, s26, s27, s28, s29, s30, s31, s32, s33, s34, s35, s36, s37, s38, s39].toArray, d⟩ w = some y := by
  unfold s13G0R at h
  split at h
  · exact (s13G0Rnrmeq _ _ _ _ _ _ _ _ _ _ _ _ _ _ _ _ _ _ _ _ _ _ _ _ _ _ _ _ _ _ _ _ _ _ _ _ _ _ _ _ _ _).trans ((Ev.bind_mono fun (v414 : Value) => (Ev.bind_mono fun (r415 : Value × World) => (Ev.bind_mono fun (v416 : Value) => (Ev.bind_mono fun (v417 : Value) => (s13L1of))))) h)
  · cases h
theorem s13G0Qeq (l : Nat) (s0 s1 s2 s3 s4 s5 s6 s7 s8 s9 s10 s11 s12 s13 s14 s15 s16 s17 s18 s19 s20 s21 s22 s23 s24 s25 s26 s27 s28 s29 s30 s31 s32 s33 s34 s35 s36 s37 s38 s39 : Value) (w : World) : roundE Try.prog l 13 [s0, s1, s2, s3, s4, s5, s6, s7, s8, s9, s10, s11, s12, s13, s14, s15, s16, s17, s18, s19, s20, s21, s22, s23, s24, s25, s26, s27, s28, s29, s30, s31, s32, s33, s34, s35, s36, s37, s38, s39].toArray (nav [1, 1, 1, 0, 1, 0, 0] (bodyOf Try.f13)) (nav [1, 1, 1, 0, 1, 0, 1] (bodyOf Try.f13)) w = s13G0Q l s3 s5 s16 w := by kernel_rfl
theorem s13G0Qof {l : Nat} {s0 s1 s2 s3 s4 s5 s6 s7 s8 s9 s10 s11 s12 s13 s14 s15 s16 s17 s18 s19 s20 s21 s22 s23 s24 s25 s26 s27 s28 s29 s30 s31 s32 s33 s34 s35 s36 s37 s38 s39 : Value} {w : World} {r : Value × World} (h : s13G0Q l s3 s5 s16 w = some r) : Rd Try.prog l 13 [s0, s1, s2, s3, s4, s5, s6, s7, s8, s9, s10, s11, s12, s13, s14, s15, s16, s17, s18, s19, s20, s21, s22, s23, s24, s25, s26, s27, s28, s29, s30, s31, s32, s33, s34, s35, s36, s37, s38, s39].toArray (nav [1, 1, 1, 0, 1, 0, 0] (bodyOf Try.f13)) (nav [1, 1, 1, 0, 1, 0, 1] (bodyOf Try.f13)) w = some r :=
  Rd_ev follows_all drawLaw (by kernel_rfl) ((s13G0Qeq l s0 s1 s2 s3 s4 s5 s6 s7 s8 s9 s10 s11 s12 s13 s14 s15 s16 s17 s18 s19 s20 s21 s22 s23 s24 s25 s26 s27 s28 s29 s30 s31 s32 s33 s34 s35 s36 s37 s38 s39 w).trans h)
theorem s13G0Qb {l : Nat} {s0 s1 s2 s3 s4 s5 s6 s7 s8 s9 s10 s11 s12 s13 s14 s15 s16 s17 s18 s19 s20 s21 s22 s23 s24 s25 s26 s27 s28 s29 s30 s31 s32 s33 s34 s35 s36 s37 s38 s39 : Value} {w : World} {Q : Value × World → Prop} (h : Brings (s13G0Q l s3 s5 s16 w) Q) : Brings (Rd Try.prog l 13 [s0, s1, s2, s3, s4, s5, s6, s7, s8, s9, s10, s11, s12, s13, s14, s15, s16, s17, s18, s19, s20, s21, s22, s23, s24, s25, s26, s27, s28, s29, s30, s31, s32, s33, s34, s35, s36, s37, s38, s39].toArray (nav [1, 1, 1, 0, 1, 0, 0] (bodyOf Try.f13)) (nav [1, 1, 1, 0, 1, 0, 1] (bodyOf Try.f13)) w) Q := h.of_eq fun _ h => s13G0Qof h
theorem s13eq (x0 x1 : Value) (w : World) : evK Try.prog 13 none (bodyOf Try.f13) none _ { tmps := (([x0, x1] : List Value) ++ List.replicate (40 - 2) undef).toArray, defers := [] } w (leaveK Try.prog Try.f13) = s13raw x0 x1 w := by kernel_rfl
theorem c13 {x0 x1 : Value} {w : World} {r : Value × World} (h : s13 x0 x1 w = some r) : C Try.prog 13 #[x0, x1] w = some r :=
  C_ev follows_all drawLaw (by kernel_rfl) Try.func13 (by rfl) ((s13eq x0 x1 w).trans (show s13raw x0 x1 w = some r from (Ev.bind_mono fun (r408 : Value × World) => (Ev.bind_mono fun (v409 : Value) => (condK_mono id (Ev.bind_mono fun (r410 : Value × World) => (Ev.bind_mono fun (v411 : Value) => (Ev.bind_mono fun (v412 : Value) => (Ev.bind_mono fun (r413 : Value × World) => (range_of (R := fun e d w => s13G0R r410.1 d w e) (fun e d w y h => s13G0Rof h))))))))) h))
theorem e13 {x0 x1 : Value} {w : World} {Q : Value × World → Prop} (h : Brings (s13 x0 x1 w) Q) : Brings (Xcall Try.prog (Value.func (Fn.func 13) #[] #[]) #[x0, x1] w) Q :=
  h.call (Xcall_fn Try.func13 (by decide +kernel) (by rfl) _ _ _ w) fun _ h => c13 h

/-! lychgate/lychgatelaw06.sameKeys -/
noncomputable def s14K0 : Exit → Act → World → Option (Value × World) := seqK (fun a w => evK Try.prog 14 none (nav [1, 1, 1] (bodyOf Try.f14)) none _ a w (leaveK Try.prog Try.f14)) (leaveK Try.prog Try.f14)
noncomputable def s14K1 : Exit → Act → World → Option (Value × World) := blockK 0 s14K0
noncomputable def s14L0 (s : List Value) (d : List Deferred) (w : World) : Option (Value × World) := loopN Try.prog 14 none (nav [1, 1, 0, 1, 0, 0] (bodyOf Try.f14)) s14K1 s d w
noncomputable def s14B0 : List Value → World → Option (Exit × List Value × World)
  | [x0, x1, x4, x5], w =>
    (Qlen Try.prog #[30] 3 #[x0] w).bind fun v443 =>
    (Qbin Try.prog Go.BinOp.lss 3 x5 v443).bind fun v444 =>
    condK v444 (
      (QindexAddr Try.prog 30 x0 x5 w.drew).bind fun v445 =>
      (Qload Try.prog 37 v445 w.drew).bind fun v446 =>
      (QindexAddr Try.prog 30 x1 x5 w.drew).bind fun v447 =>
      (Qload Try.prog 37 v447 w.drew).bind fun v448 =>
      (Qbin Try.prog Go.BinOp.neq 37 v446 v448).bind fun v449 =>
      chkK True (
        condK v449 (
          some (Exit.ret, [x0, x1, (Go.Value.bool false), x5], w.drew)
        ) (
          (Qbin Try.prog Go.BinOp.add 3 x5 (Go.Value.int Go.IntKind.i64 1)).bind fun v450 =>
          some (Exit.normal, [x0, x1, x4, v450], w.drew)
        )
      )
    ) (
      some ((Exit.exit 0), [x0, x1, x4, x5], w)
    )
  | _, _ => none
noncomputable def s14R0 : Exit → List Value → World → Option (Value × World)
  | (Exit.exit 0), [_, _, _, _], w =>
    some ((Go.Value.bool true), w)
  | Exit.ret, [_, _, x4, _], w =>
    some (x4, w)
  | _, _, _ => none
noncomputable def s14raw (x0 x1 : Value) (w : World) : Option (Value × World) :=
  (Qlen Try.prog #[30] 3 #[x0] w).bind fun v440 =>
  (Qlen Try.prog #[30] 3 #[x1] w).bind fun v441 =>
  (Qbin Try.prog Go.BinOp.neq 3 v440 v441).bind fun v442 =>
  condK v442 (
    some ((Go.Value.bool false), w)
  ) (
    s14L0 [x0, x1, undef, undef, (Go.Value.bool false), (Go.Value.int Go.IntKind.i64 0), x0, v440, x1, v441, v442, undef, undef, undef, undef, undef, undef, undef, undef, undef, undef, undef, undef, undef, undef, undef] [] w
  )
noncomputable def s14 (x0 x1 : Value) (w : World) : Option (Value × World) :=
  (Qlen Try.prog #[30] 3 #[x0] w).bind fun v440 =>
  (Qlen Try.prog #[30] 3 #[x1] w).bind fun v441 =>
  (Qbin Try.prog Go.BinOp.neq 3 v440 v441).bind fun v442 =>
  condK v442 (
    some ((Go.Value.bool false), w)
  ) (
    loopR s14B0 s14R0 [x0, x1, (Go.Value.bool false), (Go.Value.int Go.IntKind.i64 0)] w
  )
theorem s14B0eq (x0 x1 x4 x5 : Value) (w : World) (g : Nat → Value) (d : List Deferred) : evK Try.prog 14 none (nav [1, 1, 0, 1, 0, 0] (bodyOf Try.f14)) none _ (frm 26 (setL [0, 1, 4, 5] [x0, x1, x4, x5] g) d) w (projK [0, 1, 4, 5]) = s14B0 [x0, x1, x4, x5] w := by kernel_rfl
theorem s14R0x0eq (x0 x1 x4 x5 : Value) (g : Nat → Value) (w : World) : s14K1 (Exit.exit 0) (frm 26 (setL [0, 1, 4, 5] [x0, x1, x4, x5] g) []) w = s14R0 (Exit.exit 0) [x0, x1, x4, x5] w := by kernel_rfl
theorem s14R0ret_eq (x0 x1 x4 x5 : Value) (g : Nat → Value) (w : World) : s14K1 Exit.ret (frm 26 (setL [0, 1, 4, 5] [x0, x1, x4, x5] g) []) w = s14R0 Exit.ret [x0, x1, x4, x5] w := by kernel_rfl
theorem s14R0of : ∀ (e : Exit) (xs : List Value) (w : World) (g : Nat → Value) (y : _), s14R0 e xs w = some y → s14K1 e (frm 26 (setL [0, 1, 4, 5] xs g) []) w = some y := by
  intro e xs w g y h
  unfold s14R0 at h
  split at h
  · exact (s14R0x0eq _ _ _ _ g _).trans h
  · exact (s14R0ret_eq _ _ _ _ g _).trans h
  · cases h
set_option maxRecDepth 20000 in
theorem s14L0of {s0 s1 s2 s3 s4 s5 s6 s7 s8 s9 s10 s11 s12 s13 s14 s15 s16 s17 s18 s19 s20 s21 s22 s23 s24 s25 : Value} {w : World} {r : _} (h : loopR s14B0 s14R0 [s0, s1, s4, s5] w = some r) : s14L0 [s0, s1, s2, s3, s4, s5, s6, s7, s8, s9, s10, s11, s12, s13, s14, s15, s16, s17, s18, s19, s20, s21, s22, s23, s24, s25] [] w = some r :=
  loopN_of (B := s14B0) (R := s14R0) (n := 26) (live := [0, 1, 4, 5]) (fun xs w g y hl h => match xs, hl, h with | [x0, x1, x4, x5], _, h => (s14B0eq x0 x1 x4 x5 w g []).trans h) (by kernel_rfl) (s14R0of) (fun i => ([s0, s1, s2, s3, s4, s5, s6, s7, s8, s9, s10, s11, s12, s13, s14, s15, s16, s17, s18, s19, s20, s21, s22, s23, s24, s25] : List Value).getD i undef) (by kernel_rfl) rfl h
theorem s14eq (x0 x1 : Value) (w : World) : evK Try.prog 14 none (bodyOf Try.f14) none _ { tmps := (([x0, x1] : List Value) ++ List.replicate (26 - 2) undef).toArray, defers := [] } w (leaveK Try.prog Try.f14) = s14raw x0 x1 w := by kernel_rfl
theorem c14 {x0 x1 : Value} {w : World} {r : Value × World} (h : s14 x0 x1 w = some r) : C Try.prog 14 #[x0, x1] w = some r :=
  C_ev follows_all drawLaw (by kernel_rfl) Try.func14 (by rfl) ((s14eq x0 x1 w).trans (show s14raw x0 x1 w = some r from (Ev.bind_mono fun (v440 : Value) => (Ev.bind_mono fun (v441 : Value) => (Ev.bind_mono fun (v442 : Value) => (condK_mono id (s14L0of))))) h))
theorem e14 {x0 x1 : Value} {w : World} {Q : Value × World → Prop} (h : Brings (s14 x0 x1 w) Q) : Brings (Xcall Try.prog (Value.func (Fn.func 14) #[] #[]) #[x0, x1] w) Q :=
  h.call (Xcall_fn Try.func14 (by decide +kernel) (by rfl) _ _ _ w) fun _ h => c14 h

/-! (*lychgate/table.Table).Get -/
noncomputable def s15 (x0 x1 : Value) (w : World) : Option (Value × World) :=
  (Xbox Try.prog 37 x1 w).bind fun r451 =>
  (Qbin Try.prog Go.BinOp.eql 25 x0 (Go.Value.pointer none)).bind fun v452 =>
  condK v452 (
    some ((Value.tuple #[(Go.Value.int Go.IntKind.i64 0), (Go.Value.int Go.IntKind.i64 0), (Go.Value.bool false)]), r451.2)
  ) (
    (Qnil x0).bind fun v453 =>
    (QfieldAddr Try.prog 70 v453 0).bind fun v454 =>
    (Qload Try.prog 37 r451.1 r451.2.drew).bind fun v455 =>
    (Xcall Try.prog (Value.func (Fn.func 32) #[] #[]) #[v455] r451.2.drew).bind fun r456 =>
    (Xcall Try.prog (Value.func (Fn.func 31) #[] #[]) #[v454, r456.1] r456.2).bind fun r457 =>
    chkK True (
      (Qbin Try.prog Go.BinOp.eql 76 r457.1 (Go.Value.pointer none)).bind fun v458 =>
      condK v458 (
        some ((Value.tuple #[(Go.Value.int Go.IntKind.i64 0), (Go.Value.int Go.IntKind.i64 0), (Go.Value.bool false)]), r457.2)
      ) (
        (Qnil r457.1).bind fun v459 =>
        (QfieldAddr Try.prog 73 v459 1).bind fun v460 =>
        (Qload Try.prog 3 v460 r457.2.drew).bind fun v461 =>
        (Qnil r457.1).bind fun v462 =>
        (QfieldAddr Try.prog 73 v462 2).bind fun v463 =>
        (Qload Try.prog 3 v463 r457.2.drew).bind fun v464 =>
        chkK True (
          some ((Value.tuple #[v461, v464, (Go.Value.bool true)]), r457.2.drew)
        )
      )
    )
  )
theorem s15eq (x0 x1 : Value) (w : World) : evK Try.prog 15 none (bodyOf Try.f15) none _ { tmps := (([x0, x1] : List Value) ++ List.replicate (26 - 2) undef).toArray, defers := [] } w (leaveK Try.prog Try.f15) = s15 x0 x1 w := by kernel_rfl
theorem c15 {x0 x1 : Value} {w : World} {r : Value × World} (h : s15 x0 x1 w = some r) : C Try.prog 15 #[x0, x1] w = some r :=
  C_ev follows_all drawLaw (by kernel_rfl) Try.func15 (by rfl) ((s15eq x0 x1 w).trans h)
theorem e15 {x0 x1 : Value} {w : World} {Q : Value × World → Prop} (h : Brings (s15 x0 x1 w) Q) : Brings (Xcall Try.prog (Value.func (Fn.func 15) #[] #[]) #[x0, x1] w) Q :=
  h.call (Xcall_fn Try.func15 (by decide +kernel) (by rfl) _ _ _ w) fun _ h => c15 h

/-! (*lychgate/table.Table).Len -/
noncomputable def s16 (x0 : Value) (w : World) : Option (Value × World) :=
  (Qbin Try.prog Go.BinOp.eql 25 x0 (Go.Value.pointer none)).bind fun v465 =>
  condK v465 (
    some ((Go.Value.int Go.IntKind.i64 0), w)
  ) (
    (Qnil x0).bind fun v466 =>
    (QfieldAddr Try.prog 70 v466 0).bind fun v467 =>
    (QfieldAddr Try.prog 68 v467 2).bind fun v468 =>
    (Qload Try.prog 3 v468 w).bind fun v469 =>
    some (v469, w)
  )
theorem s16eq (x0 : Value) (w : World) : evK Try.prog 16 none (bodyOf Try.f16) none _ { tmps := (([x0] : List Value) ++ List.replicate (10 - 1) undef).toArray, defers := [] } w (leaveK Try.prog Try.f16) = s16 x0 w := by kernel_rfl
theorem c16 {x0 : Value} {w : World} {r : Value × World} (h : s16 x0 w = some r) : C Try.prog 16 #[x0] w = some r :=
  C_ev follows_all drawLaw (by kernel_rfl) Try.func16 (by rfl) ((s16eq x0 w).trans h)
theorem e16 {x0 : Value} {w : World} {Q : Value × World → Prop} (h : Brings (s16 x0 w) Q) : Brings (Xcall Try.prog (Value.func (Fn.func 16) #[] #[]) #[x0] w) Q :=
  h.call (Xcall_fn Try.func16 (by decide +kernel) (by rfl) _ _ _ w) fun _ h => c16 h

/-! (*lychgate/table.Table).Put -/
noncomputable def s17 (x0 x1 x2 x3 : Value) (w : World) : Option (Value × World) :=
  (Xbox Try.prog 37 x1 w).bind fun r470 =>
  (Xcall Try.prog (Value.func (Fn.func 33) #[] #[]) #[x0, x3] r470.2).bind fun r471 =>
  (Qbin Try.prog Go.BinOp.neq 40 r471.1 (Go.Value.int Go.IntKind.i64 0)).bind fun v472 =>
  condK v472 (
    some (r471.1, r471.2)
  ) (
    (Qload Try.prog 37 r470.1 r471.2).bind fun v473 =>
    (Xcall Try.prog (Value.func (Fn.func 32) #[] #[]) #[v473] r471.2).bind fun r474 =>
    (Xstore Try.prog 37 r470.1 r474.1 r474.2).bind fun r475 =>
    (Qnil x0).bind fun v476 =>
    (QfieldAddr Try.prog 70 v476 0).bind fun v477 =>
    (Qload Try.prog 37 r470.1 r475.2.drew).bind fun v478 =>
    (Xcall Try.prog (Value.func (Fn.func 31) #[] #[]) #[v477, v478] r475.2.drew).bind fun r479 =>
    (Qbin Try.prog Go.BinOp.neq 76 r479.1 (Go.Value.pointer none)).bind fun v480 =>
    chkK True (
      condK v480 (
        some ((Go.Value.int Go.IntKind.i64 10), r479.2)
      ) (
        (Qnil x0).bind fun v481 =>
        (QfieldAddr Try.prog 70 v481 0).bind fun v482 =>
        (QfieldAddr Try.prog 68 v482 2).bind fun v483 =>
        (Qload Try.prog 3 v483 r479.2.drew).bind fun v484 =>
        (Qnil x0).bind fun v485 =>
        (QfieldAddr Try.prog 70 v485 1).bind fun v486 =>
        (Qload Try.prog 3 v486 r479.2.drew).bind fun v487 =>
        (Qbin Try.prog Go.BinOp.geq 3 v484 v487).bind fun v488 =>
        chkK True (
          condK v488 (
            some ((Go.Value.int Go.IntKind.i64 9), r479.2.drew)
          ) (
            (Qnil x0).bind fun v489 =>
            (QfieldAddr Try.prog 70 v489 2).bind fun v490 =>
            (Qload Try.prog 3 v490 r479.2.drew).bind fun v491 =>
            (Qbin Try.prog Go.BinOp.add 3 v491 (Go.Value.int Go.IntKind.i64 1)).bind fun v492 =>
            (Qnil x0).bind fun v493 =>
            (QfieldAddr Try.prog 70 v493 2).bind fun v494 =>
            (Xstore Try.prog 3 v494 v492 r479.2.drew).bind fun r495 =>
            (Qnil x0).bind fun v496 =>
            (QfieldAddr Try.prog 70 v496 0).bind fun v497 =>
            (QfieldAddr Try.prog 68 v497 2).bind fun v498 =>
            (Qload Try.prog 3 v498 r495.2).bind fun v499 =>
            (Qbin Try.prog Go.BinOp.add 3 v499 (Go.Value.int Go.IntKind.i64 1)).bind fun v500 =>
            (Qnil x0).bind fun v501 =>
            (QfieldAddr Try.prog 70 v501 0).bind fun v502 =>
            (QfieldAddr Try.prog 68 v502 2).bind fun v503 =>
            (Xstore Try.prog 3 v503 v500 r495.2).bind fun r504 =>
            (Qnil x0).bind fun v505 =>
            (QfieldAddr Try.prog 70 v505 0).bind fun v506 =>
            (Qload Try.prog 37 r470.1 r504.2.drew).bind fun v507 =>
            (Xcall Try.prog (Value.func (Fn.func 34) #[] #[]) #[v506, v507] r504.2.drew).bind fun r508 =>
            chkK True (
              (Qnil r508.1).bind fun v509 =>
              (Qload Try.prog 62 v509 r508.2.drew).bind fun v510 =>
              (Qload Try.prog 37 r470.1 r508.2.drew).bind fun v511 =>
              (Qnil x0).bind fun v512 =>
              (QfieldAddr Try.prog 70 v512 2).bind fun v513 =>
              (Qload Try.prog 3 v513 r508.2.drew).bind fun v514 =>
              (Qbuild Try.prog 73 #[(0, v511), (1, x2), (2, x3), (3, v514)] r508.2.drew).bind fun v515 =>
              (XbuildSlice Try.prog 62 1 #[(0, v515)] r508.2.drew).bind fun r516 =>
              (Xbi Try.prog Go.Builtin.append #[62, 62] 62 #[v510, r516.1] r516.2).bind fun r517 =>
              (Qnil r508.1).bind fun v518 =>
              (Xstore Try.prog 62 v518 r517.1 r517.2).bind fun r519 =>
              chkK ((Qload Try.prog 62 v509 r508.2.drew = some v510 ∧ Qload Try.prog 62 v509 r516.2 = some v510) ∧ True) (
                some ((Go.Value.int Go.IntKind.i64 0), r519.2)
              )
            )
          )
        )
      )
    )
  )
theorem s17eq (x0 x1 x2 x3 : Value) (w : World) : evK Try.prog 17 none (bodyOf Try.f17) none _ { tmps := (([x0, x1, x2, x3] : List Value) ++ List.replicate (73 - 4) undef).toArray, defers := [] } w (leaveK Try.prog Try.f17) = s17 x0 x1 x2 x3 w := by kernel_rfl
theorem c17 {x0 x1 x2 x3 : Value} {w : World} {r : Value × World} (h : s17 x0 x1 x2 x3 w = some r) : C Try.prog 17 #[x0, x1, x2, x3] w = some r :=
  C_ev follows_all drawLaw (by kernel_rfl) Try.func17 (by rfl) ((s17eq x0 x1 x2 x3 w).trans h)
theorem e17 {x0 x1 x2 x3 : Value} {w : World} {Q : Value × World → Prop} (h : Brings (s17 x0 x1 x2 x3 w) Q) : Brings (Xcall Try.prog (Value.func (Fn.func 17) #[] #[]) #[x0, x1, x2, x3] w) Q :=
  h.call (Xcall_fn Try.func17 (by decide +kernel) (by rfl) _ _ _ w) fun _ h => c17 h

/-! lychgate/lychgateref05.Key -/
noncomputable def s18 (x0 : Value) (w : World) : Option (Value × World) :=
  (Xbox Try.prog 37 x0 w).bind fun r520 =>
  (Xalloc Try.prog 37 r520.2).bind fun r521 =>
  (QfieldAddr Try.prog 37 r520.1 0).bind fun v522 =>
  (Qload Try.prog 5 v522 r521.2).bind fun v523 =>
  (Qbin Try.prog Go.BinOp.eql 5 v523 (Go.Value.int Go.IntKind.u8 47)).bind fun v524 =>
  condK v524 (
    (QfieldAddr Try.prog 37 r520.1 3).bind fun v525 =>
    (Xstore Try.prog 23 v525 (Go.Value.int Go.IntKind.u16 0) r521.2).bind fun r526 =>
    (Qload Try.prog 37 r520.1 r526.2).bind fun v527 =>
    (Xstore Try.prog 37 r521.1 v527 r526.2).bind fun r528 =>
    ((((Qload Try.prog 37 r521.1 r528.2).bind fun v => ((some [])).map fun vs => v :: vs)).map oneOf).map fun v => (v, r528.2)
  ) (
    (Qload Try.prog 37 r520.1 r521.2).bind fun v529 =>
    (Xstore Try.prog 37 r521.1 v529 r521.2).bind fun r530 =>
    ((((Qload Try.prog 37 r521.1 r530.2).bind fun v => ((some [])).map fun vs => v :: vs)).map oneOf).map fun v => (v, r530.2)
  )
theorem s18eq (x0 : Value) (w : World) : evK Try.prog 18 none (bodyOf Try.f18) none _ { tmps := (([x0] : List Value) ++ List.replicate (8 - 1) undef).toArray, defers := [] } w (leaveK Try.prog Try.f18) = s18 x0 w := by kernel_rfl
theorem c18 {x0 : Value} {w : World} {r : Value × World} (h : s18 x0 w = some r) : C Try.prog 18 #[x0] w = some r :=
  C_ev follows_all drawLaw (by kernel_rfl) Try.func18 (by rfl) ((s18eq x0 w).trans h)
theorem e18 {x0 : Value} {w : World} {Q : Value × World → Prop} (h : Brings (s18 x0 w) Q) : Brings (Xcall Try.prog (Value.func (Fn.func 18) #[] #[]) #[x0] w) Q :=
  h.call (Xcall_fn Try.func18 (by decide +kernel) (by rfl) _ _ _ w) fun _ h => c18 h

/-! lychgate/lychgatelaw06.same -/
noncomputable def s19 (x0 x1 x2 x3 : Value) (w : World) : Option (Value × World) :=
  (Xbox Try.prog 37 x2 w).bind fun r531 =>
  (Qload Try.prog 37 r531.1 r531.2).bind fun v532 =>
  (Xcall Try.prog (Value.func (Fn.func 15) #[] #[]) #[x0, v532] r531.2).bind fun r533 =>
  (Qext r533.1 0).bind fun v534 =>
  (Qext r533.1 1).bind fun v535 =>
  (Qext r533.1 2).bind fun v536 =>
  (Qload Try.prog 37 r531.1 r533.2).bind fun v537 =>
  (Xcall Try.prog (Value.func (Fn.func 35) #[] #[]) #[x1, v537] r533.2).bind fun r538 =>
  (Qext r538.1 0).bind fun v539 =>
  (Qext r538.1 1).bind fun v540 =>
  (Qext r538.1 2).bind fun v541 =>
  (Xcall Try.prog (Value.func (Fn.func 25) #[] #[]) #[x0] r538.2).bind fun r542 =>
  (Qext r542.1 0).bind fun v543 =>
  (Qext r542.1 1).bind fun v544 =>
  (Xalloc Try.prog 37 r542.2).bind fun r545 =>
  (Xstore Try.prog 37 r545.1 v543 r545.2).bind fun r546 =>
  (Xcall Try.prog (Value.func (Fn.func 36) #[] #[]) #[x1] r546.2).bind fun r547 =>
  (Qext r547.1 0).bind fun v548 =>
  (Qext r547.1 1).bind fun v549 =>
  (Xalloc Try.prog 37 r547.2).bind fun r550 =>
  (Xstore Try.prog 37 r550.1 v548 r550.2).bind fun r551 =>
  (Qbin Try.prog Go.BinOp.eql 3 v534 v539).bind fun v552 =>
  (guardQ v552 true (Qbin Try.prog Go.BinOp.eql 3 (gv (isB v552 true) v535) (gv (isB v552 true) v540))).bind fun v553 =>
  (Qpick v552 v553 (Go.Value.bool false)).bind fun v554 =>
  (guardQ v554 true (Qbin Try.prog Go.BinOp.eql 4 (gv (isB v554 true) v536) (gv (isB v554 true) v541))).bind fun v555 =>
  (Qpick v554 v555 (Go.Value.bool false)).bind fun v556 =>
  (guardQ v556 true (Qload Try.prog 37 r545.1 r551.2)).bind fun v557 =>
  (guardQ v556 true (Qload Try.prog 37 r550.1 r551.2)).bind fun v558 =>
  (guardQ v556 true (Qbin Try.prog Go.BinOp.eql 37 v557 v558)).bind fun v559 =>
  (Qpick v556 v559 (Go.Value.bool false)).bind fun v560 =>
  (guardQ v560 true (Qbin Try.prog Go.BinOp.eql 4 (gv (isB v560 true) v544) (gv (isB v560 true) v549))).bind fun v561 =>
  (Qpick v560 v561 (Go.Value.bool false)).bind fun v562 =>
  (guardX v562 true r551.2 (Xcall Try.prog (Value.func (Fn.func 16) #[] #[]) #[(gv (isB v562 true) x0)] r551.2)).bind fun r563 =>
  (guardX v562 true r563.2 (Xcall Try.prog (Value.func (Fn.func 37) #[] #[]) #[(gv (isB v562 true) x1)] r563.2)).bind fun r564 =>
  (guardQ v562 true (Qbin Try.prog Go.BinOp.eql 3 r563.1 r564.1)).bind fun v565 =>
  (Qpick v562 v565 (Go.Value.bool false)).bind fun v566 =>
  (guardX v566 true r564.2 (Xcall Try.prog (Value.func (Fn.func 13) #[] #[]) #[(gv (isB v566 true) x0), (gv (isB v566 true) x3)] r564.2)).bind fun r567 =>
  (guardX v566 true r567.2 (Xcall Try.prog (Value.func (Fn.func 38) #[] #[]) #[(gv (isB v566 true) x1), (gv (isB v566 true) x3)] r567.2)).bind fun r568 =>
  (guardX v566 true r568.2 (Xcall Try.prog (Value.func (Fn.func 14) #[] #[]) #[r567.1, r568.1] r568.2)).bind fun r569 =>
  (Qpick v566 r569.1 (Go.Value.bool false)).bind fun v570 =>
  some (v570, r569.2)
theorem s19eq (x0 x1 x2 x3 : Value) (w : World) : evK Try.prog 19 none (bodyOf Try.f19) none _ { tmps := (([x0, x1, x2, x3] : List Value) ++ List.replicate (82 - 4) undef).toArray, defers := [] } w (leaveK Try.prog Try.f19) = s19 x0 x1 x2 x3 w := by kernel_rfl
theorem c19 {x0 x1 x2 x3 : Value} {w : World} {r : Value × World} (h : s19 x0 x1 x2 x3 w = some r) : C Try.prog 19 #[x0, x1, x2, x3] w = some r :=
  C_ev follows_all drawLaw (by kernel_rfl) Try.func19 (by rfl) ((s19eq x0 x1 x2 x3 w).trans h)
theorem e19 {x0 x1 x2 x3 : Value} {w : World} {Q : Value × World → Prop} (h : Brings (s19 x0 x1 x2 x3 w) Q) : Brings (Xcall Try.prog (Value.func (Fn.func 19) #[] #[]) #[x0, x1, x2, x3] w) Q :=
  h.call (Xcall_fn Try.func19 (by decide +kernel) (by rfl) _ _ _ w) fun _ h => c19 h

/-! (*lychgate/table.Table).Move -/
noncomputable def s20 (x0 x1 x2 : Value) (w : World) : Option (Value × World) :=
  (Xbox Try.prog 37 x1 w).bind fun r571 =>
  (Xcall Try.prog (Value.func (Fn.func 33) #[] #[]) #[x0, x2] r571.2).bind fun r572 =>
  (Qbin Try.prog Go.BinOp.neq 40 r572.1 (Go.Value.int Go.IntKind.i64 0)).bind fun v573 =>
  condK v573 (
    some (r572.1, r572.2)
  ) (
    (Qnil x0).bind fun v574 =>
    (QfieldAddr Try.prog 70 v574 0).bind fun v575 =>
    (Qload Try.prog 37 r571.1 r572.2.drew).bind fun v576 =>
    (Xcall Try.prog (Value.func (Fn.func 32) #[] #[]) #[v576] r572.2.drew).bind fun r577 =>
    (Xcall Try.prog (Value.func (Fn.func 31) #[] #[]) #[v575, r577.1] r577.2).bind fun r578 =>
    chkK True (
      (Qbin Try.prog Go.BinOp.eql 76 r578.1 (Go.Value.pointer none)).bind fun v579 =>
      condK v579 (
        some ((Go.Value.int Go.IntKind.i64 11), r578.2)
      ) (
        (Qnil x0).bind fun v580 =>
        (QfieldAddr Try.prog 70 v580 2).bind fun v581 =>
        (Qload Try.prog 3 v581 r578.2).bind fun v582 =>
        (Qbin Try.prog Go.BinOp.add 3 v582 (Go.Value.int Go.IntKind.i64 1)).bind fun v583 =>
        (Qnil x0).bind fun v584 =>
        (QfieldAddr Try.prog 70 v584 2).bind fun v585 =>
        (Xstore Try.prog 3 v585 v583 r578.2).bind fun r586 =>
        (Qnil x0).bind fun v587 =>
        (QfieldAddr Try.prog 70 v587 2).bind fun v588 =>
        (Qload Try.prog 3 v588 r586.2).bind fun v589 =>
        (Qnil r578.1).bind fun v590 =>
        (QfieldAddr Try.prog 73 v590 2).bind fun v591 =>
        (Xstore Try.prog 3 v591 x2 r586.2).bind fun r592 =>
        (Qnil r578.1).bind fun v593 =>
        (QfieldAddr Try.prog 73 v593 3).bind fun v594 =>
        (Xstore Try.prog 3 v594 v589 r592.2).bind fun r595 =>
        some ((Go.Value.int Go.IntKind.i64 0), r595.2)
      )
    )
  )
theorem s20eq (x0 x1 x2 : Value) (w : World) : evK Try.prog 20 none (bodyOf Try.f20) none _ { tmps := (([x0, x1, x2] : List Value) ++ List.replicate (41 - 3) undef).toArray, defers := [] } w (leaveK Try.prog Try.f20) = s20 x0 x1 x2 w := by kernel_rfl
theorem c20 {x0 x1 x2 : Value} {w : World} {r : Value × World} (h : s20 x0 x1 x2 w = some r) : C Try.prog 20 #[x0, x1, x2] w = some r :=
  C_ev follows_all drawLaw (by kernel_rfl) Try.func20 (by rfl) ((s20eq x0 x1 x2 w).trans h)
theorem e20 {x0 x1 x2 : Value} {w : World} {Q : Value × World → Prop} (h : Brings (s20 x0 x1 x2 w) Q) : Brings (Xcall Try.prog (Value.func (Fn.func 20) #[] #[]) #[x0, x1, x2] w) Q :=
  h.call (Xcall_fn Try.func20 (by decide +kernel) (by rfl) _ _ _ w) fun _ h => c20 h

/-! (*lychgate/table.Table).Drop -/
noncomputable def s21 (x0 x1 : Value) (w : World) : Option (Value × World) :=
  (Xbox Try.prog 37 x1 w).bind fun r596 =>
  (Qbin Try.prog Go.BinOp.eql 25 x0 (Go.Value.pointer none)).bind fun v597 =>
  condK v597 (
    some ((Go.Value.int Go.IntKind.i64 1), r596.2)
  ) (
    (Qload Try.prog 37 r596.1 r596.2).bind fun v598 =>
    (Xcall Try.prog (Value.func (Fn.func 32) #[] #[]) #[v598] r596.2).bind fun r599 =>
    (Xstore Try.prog 37 r596.1 r599.1 r599.2).bind fun r600 =>
    (Qnil x0).bind fun v601 =>
    (QfieldAddr Try.prog 70 v601 0).bind fun v602 =>
    (Qload Try.prog 37 r596.1 r600.2.drew).bind fun v603 =>
    (Xcall Try.prog (Value.func (Fn.func 31) #[] #[]) #[v602, v603] r600.2.drew).bind fun r604 =>
    (Qbin Try.prog Go.BinOp.eql 76 r604.1 (Go.Value.pointer none)).bind fun v605 =>
    chkK True (
      condK v605 (
        some ((Go.Value.int Go.IntKind.i64 11), r604.2)
      ) (
        (Qnil x0).bind fun v606 =>
        (QfieldAddr Try.prog 70 v606 0).bind fun v607 =>
        (Qload Try.prog 37 r596.1 r604.2.drew).bind fun v608 =>
        (Xcall Try.prog (Value.func (Fn.func 34) #[] #[]) #[v607, v608] r604.2.drew).bind fun r609 =>
        chkK True (
          (Qnil r609.1).bind fun v610 =>
          (Qload Try.prog 62 v610 r609.2).bind fun v611 =>
          (some (Value.func (Go.Fn.func 40) #[] #[r596.1])).bind fun v612 =>
          (Xcall Try.prog (Value.func (Fn.func 39) #[] #[]) #[v611, v612] r609.2).bind fun r613 =>
          (Qnil r609.1).bind fun v614 =>
          (Xstore Try.prog 62 v614 r613.1 r613.2).bind fun r615 =>
          (Qnil x0).bind fun v616 =>
          (QfieldAddr Try.prog 70 v616 0).bind fun v617 =>
          (QfieldAddr Try.prog 68 v617 2).bind fun v618 =>
          (Qload Try.prog 3 v618 r615.2).bind fun v619 =>
          (Qbin Try.prog Go.BinOp.sub 3 v619 (Go.Value.int Go.IntKind.i64 1)).bind fun v620 =>
          (Qnil x0).bind fun v621 =>
          (QfieldAddr Try.prog 70 v621 0).bind fun v622 =>
          (QfieldAddr Try.prog 68 v622 2).bind fun v623 =>
          (Xstore Try.prog 3 v623 v620 r615.2).bind fun r624 =>
          some ((Go.Value.int Go.IntKind.i64 0), r624.2)
        )
      )
    )
  )
theorem s21eq (x0 x1 : Value) (w : World) : evK Try.prog 21 none (bodyOf Try.f21) none _ { tmps := (([x0, x1] : List Value) ++ List.replicate (37 - 2) undef).toArray, defers := [] } w (leaveK Try.prog Try.f21) = s21 x0 x1 w := by kernel_rfl
theorem c21 {x0 x1 : Value} {w : World} {r : Value × World} (h : s21 x0 x1 w = some r) : C Try.prog 21 #[x0, x1] w = some r :=
  C_ev follows_all drawLaw (by kernel_rfl) Try.func21 (by rfl) ((s21eq x0 x1 w).trans h)
theorem e21 {x0 x1 : Value} {w : World} {Q : Value × World → Prop} (h : Brings (s21 x0 x1 w) Q) : Brings (Xcall Try.prog (Value.func (Fn.func 21) #[] #[]) #[x0, x1] w) Q :=
  h.call (Xcall_fn Try.func21 (by decide +kernel) (by rfl) _ _ _ w) fun _ h => c21 h

/-! (*lychgate/table.Table).Fork -/
noncomputable def s22K0 : Exit → Act → World → Option (Value × World) := seqK (fun a w => evK Try.prog 22 none (nav [1, 1, 1, 1, 1] (bodyOf Try.f22)) none _ a w (leaveK Try.prog Try.f22)) (leaveK Try.prog Try.f22)
noncomputable def s22K1 : Exit → Act → World → Option (Value × World) := blockK 0 s22K0
noncomputable def s22L0 (s : List Value) (d : List Deferred) (w : World) : Option (Value × World) := loopN Try.prog 22 none (nav [1, 1, 1, 1, 0, 1, 0, 0] (bodyOf Try.f22)) s22K1 s d w
noncomputable def s22B0 : List Value → World → Option (Exit × List Value × World)
  | [x3, x21, x22, x23], w =>
    (Qbin Try.prog Go.BinOp.lss 3 x23 x22).bind fun v642 =>
    condK v642 (
      (QindexAddr Try.prog 65 x21 x23 w).bind fun v643 =>
      (Qload Try.prog 62 v643 w).bind fun v644 =>
      (QfieldAddr Try.prog 70 x3 0).bind fun v645 =>
      (QfieldAddr Try.prog 68 v645 0).bind fun v646 =>
      (Qload Try.prog 65 v646 w.drew).bind fun v647 =>
      (Xcall Try.prog (Value.func (Fn.func 42) #[] #[]) #[v644] w.drew).bind fun r648 =>
      (QindexAddr Try.prog 65 v647 x23 r648.2).bind fun v649 =>
      (Xstore Try.prog 62 v649 r648.1 r648.2).bind fun r650 =>
      chkK ((Qload Try.prog 65 v646 w.drew = some v647 ∧ Qload Try.prog 65 v646 r648.2 = some v647) ∧ True) (
        (Qbin Try.prog Go.BinOp.add 3 x23 (Go.Value.int Go.IntKind.i64 1)).bind fun v651 =>
        some (Exit.normal, [x3, x21, x22, v651], r650.2)
      )
    ) (
      some ((Exit.exit 0), [x3, x21, x22, x23], w)
    )
  | _, _ => none
noncomputable def s22R0 : Exit → List Value → World → Option (Value × World)
  | (Exit.exit 0), [x3, _, _, _], w =>
    some (x3, w)
  | _, _, _ => none
noncomputable def s22raw (x0 : Value) (w : World) : Option (Value × World) :=
  (Qbin Try.prog Go.BinOp.eql 25 x0 (Go.Value.pointer none)).bind fun v625 =>
  condK v625 (
    some ((Go.Value.pointer none), w)
  ) (
    (Qnil x0).bind fun v626 =>
    (Qload Try.prog 70 v626 w).bind fun v627 =>
    (Xalloc Try.prog 70 w).bind fun r628 =>
    (Xstore Try.prog 70 r628.1 v627 r628.2).bind fun r629 =>
    (Qnil x0).bind fun v630 =>
    (QfieldAddr Try.prog 70 v630 0).bind fun v631 =>
    (QfieldAddr Try.prog 68 v631 0).bind fun v632 =>
    (Qload Try.prog 65 v632 r629.2).bind fun v633 =>
    (Xcall Try.prog (Value.func (Fn.func 41) #[] #[]) #[v633] r629.2).bind fun r634 =>
    (QfieldAddr Try.prog 70 r628.1 0).bind fun v635 =>
    (QfieldAddr Try.prog 68 v635 0).bind fun v636 =>
    (Xstore Try.prog 65 v636 r634.1 r634.2).bind fun r637 =>
    (QfieldAddr Try.prog 70 r628.1 0).bind fun v638 =>
    (QfieldAddr Try.prog 68 v638 0).bind fun v639 =>
    (Qload Try.prog 65 v639 r637.2).bind fun v640 =>
    (Qlen Try.prog #[65] 3 #[v640] r637.2).bind fun v641 =>
    s22L0 [x0, undef, (Go.Value.pointer none), r628.1, undef, undef, x0, v625, x0, v626, v627, x0, v630, v631, v632, v633, r634.1, v635, v636, v638, v639, v640, v641, (Go.Value.int Go.IntKind.i64 0), undef, undef, undef, undef, undef, undef, undef, undef, undef, undef, undef, undef] [] r637.2
  )
noncomputable def s22 (x0 : Value) (w : World) : Option (Value × World) :=
  (Qbin Try.prog Go.BinOp.eql 25 x0 (Go.Value.pointer none)).bind fun v625 =>
  condK v625 (
    some ((Go.Value.pointer none), w)
  ) (
    (Qnil x0).bind fun v626 =>
    (Qload Try.prog 70 v626 w).bind fun v627 =>
    (Xalloc Try.prog 70 w).bind fun r628 =>
    (Xstore Try.prog 70 r628.1 v627 r628.2).bind fun r629 =>
    (Qnil x0).bind fun v630 =>
    (QfieldAddr Try.prog 70 v630 0).bind fun v631 =>
    (QfieldAddr Try.prog 68 v631 0).bind fun v632 =>
    (Qload Try.prog 65 v632 r629.2).bind fun v633 =>
    (Xcall Try.prog (Value.func (Fn.func 41) #[] #[]) #[v633] r629.2).bind fun r634 =>
    (QfieldAddr Try.prog 70 r628.1 0).bind fun v635 =>
    (QfieldAddr Try.prog 68 v635 0).bind fun v636 =>
    (Xstore Try.prog 65 v636 r634.1 r634.2).bind fun r637 =>
    (QfieldAddr Try.prog 70 r628.1 0).bind fun v638 =>
    (QfieldAddr Try.prog 68 v638 0).bind fun v639 =>
    (Qload Try.prog 65 v639 r637.2).bind fun v640 =>
    (Qlen Try.prog #[65] 3 #[v640] r637.2).bind fun v641 =>
    loopR s22B0 s22R0 [r628.1, v640, v641, (Go.Value.int Go.IntKind.i64 0)] r637.2
  )
theorem s22B0eq (x3 x21 x22 x23 : Value) (w : World) (g : Nat → Value) (d : List Deferred) : evK Try.prog 22 none (nav [1, 1, 1, 1, 0, 1, 0, 0] (bodyOf Try.f22)) none _ (frm 36 (setL [3, 21, 22, 23] [x3, x21, x22, x23] g) d) w (projK [3, 21, 22, 23]) = s22B0 [x3, x21, x22, x23] w := by kernel_rfl
theorem s22R0x0eq (x3 x21 x22 x23 : Value) (g : Nat → Value) (w : World) : s22K1 (Exit.exit 0) (frm 36 (setL [3, 21, 22, 23] [x3, x21, x22, x23] g) []) w = s22R0 (Exit.exit 0) [x3, x21, x22, x23] w := by kernel_rfl
theorem s22R0of : ∀ (e : Exit) (xs : List Value) (w : World) (g : Nat → Value) (y : _), s22R0 e xs w = some y → s22K1 e (frm 36 (setL [3, 21, 22, 23] xs g) []) w = some y := by
  intro e xs w g y h
  unfold s22R0 at h
  split at h
  · exact (s22R0x0eq _ _ _ _ g _).trans h
  · cases h
set_option maxRecDepth 20000 in
theorem s22L0of {s0 s1 s2 s3 s4 s5 s6 s7 s8 s9 s10 s11 s12 s13 s14 s15 s16 s17 s18 s19 s20 s21 s22 s23 s24 s25 s26 s27 s28 s29 s30 s31 s32 s33 s34 s35 : Value} {w : World} {r : _} (h : loopR s22B0 s22R0 [s3, s21, s22, s23] w = some r) : s22L0 [s0, s1, s2, s3, s4, s5, s6, s7, s8, s9, s10, s11, s12, s13, s14, s15, s16, s17, s18, s19, s20, s21, s22, s23, s24, s25, s26, s27, s28, s29, s30, s31, s32, s33, s34, s35] [] w = some r :=
  loopN_of (B := s22B0) (R := s22R0) (n := 36) (live := [3, 21, 22, 23]) (fun xs w g y hl h => match xs, hl, h with | [x3, x21, x22, x23], _, h => (s22B0eq x3 x21 x22 x23 w g []).trans h) (by kernel_rfl) (s22R0of) (fun i => ([s0, s1, s2, s3, s4, s5, s6, s7, s8, s9, s10, s11, s12, s13, s14, s15, s16, s17, s18, s19, s20, s21, s22, s23, s24, s25, s26, s27, s28, s29, s30, s31, s32, s33, s34, s35] : List Value).getD i undef) (by kernel_rfl) rfl h
theorem s22eq (x0 : Value) (w : World) : evK Try.prog 22 none (bodyOf Try.f22) none _ { tmps := (([x0] : List Value) ++ List.replicate (36 - 1) undef).toArray, defers := [] } w (leaveK Try.prog Try.f22) = s22raw x0 w := by kernel_rfl
theorem c22 {x0 : Value} {w : World} {r : Value × World} (h : s22 x0 w = some r) : C Try.prog 22 #[x0] w = some r :=
  C_ev follows_all drawLaw (by kernel_rfl) Try.func22 (by rfl) ((s22eq x0 w).trans (show s22raw x0 w = some r from (Ev.bind_mono fun (v625 : Value) => (condK_mono id (Ev.bind_mono fun (v626 : Value) => (Ev.bind_mono fun (v627 : Value) => (Ev.bind_mono fun (r628 : Value × World) => (Ev.bind_mono fun (r629 : Value × World) => (Ev.bind_mono fun (v630 : Value) => (Ev.bind_mono fun (v631 : Value) => (Ev.bind_mono fun (v632 : Value) => (Ev.bind_mono fun (v633 : Value) => (Ev.bind_mono fun (r634 : Value × World) => (Ev.bind_mono fun (v635 : Value) => (Ev.bind_mono fun (v636 : Value) => (Ev.bind_mono fun (r637 : Value × World) => (Ev.bind_mono fun (v638 : Value) => (Ev.bind_mono fun (v639 : Value) => (Ev.bind_mono fun (v640 : Value) => (Ev.bind_mono fun (v641 : Value) => (s22L0of))))))))))))))))))) h))
theorem e22 {x0 : Value} {w : World} {Q : Value × World → Prop} (h : Brings (s22 x0 w) Q) : Brings (Xcall Try.prog (Value.func (Fn.func 22) #[] #[]) #[x0] w) Q :=
  h.call (Xcall_fn Try.func22 (by decide +kernel) (by rfl) _ _ _ w) fun _ h => c22 h

/-! (*lychgate/lychgateref06.Table).Fork -/
noncomputable def s23 (x0 : Value) (w : World) : Option (Value × World) :=
  (Qbin Try.prog Go.BinOp.eql 26 x0 (Go.Value.pointer none)).bind fun v652 =>
  condK v652 (
    some ((Go.Value.pointer none), w)
  ) (
    (XbuildSlice Try.prog 85 0 #[] w.drew).bind fun r653 =>
    (Qnil x0).bind fun v654 =>
    (QfieldAddr Try.prog 87 v654 0).bind fun v655 =>
    (Qload Try.prog 85 v655 r653.2).bind fun v656 =>
    (Xbi Try.prog Go.Builtin.append #[85, 85] 85 #[r653.1, v656] r653.2).bind fun r657 =>
    (Qnil x0).bind fun v658 =>
    (QfieldAddr Try.prog 87 v658 1).bind fun v659 =>
    (Qload Try.prog 3 v659 r657.2).bind fun v660 =>
    (Qnil x0).bind fun v661 =>
    (QfieldAddr Try.prog 87 v661 2).bind fun v662 =>
    (Qload Try.prog 3 v662 r657.2).bind fun v663 =>
    (Qbuild Try.prog 87 #[(0, r657.1), (1, v660), (2, v663)] r657.2).bind fun v664 =>
    (Xbox Try.prog 87 v664 r657.2).bind fun r665 =>
    chkK ((Qload Try.prog 85 v655 w.drew = some v656 ∧ Qload Try.prog 85 v655 r653.2 = some v656) ∧ ((Qload Try.prog 3 v659 w.drew = some v660 ∧ Qload Try.prog 3 v659 r653.2 = some v660) ∧ ((Qload Try.prog 3 v659 r653.2 = some v660 ∧ Qload Try.prog 3 v659 r657.2 = some v660) ∧ ((Qload Try.prog 3 v662 w.drew = some v663 ∧ Qload Try.prog 3 v662 r653.2 = some v663) ∧ ((Qload Try.prog 3 v662 r653.2 = some v663 ∧ Qload Try.prog 3 v662 r657.2 = some v663) ∧ True))))) (
      some (r665.1, r665.2)
    )
  )
theorem s23eq (x0 : Value) (w : World) : evK Try.prog 23 none (bodyOf Try.f23) none _ { tmps := (([x0] : List Value) ++ List.replicate (21 - 1) undef).toArray, defers := [] } w (leaveK Try.prog Try.f23) = s23 x0 w := by kernel_rfl
theorem c23 {x0 : Value} {w : World} {r : Value × World} (h : s23 x0 w = some r) : C Try.prog 23 #[x0] w = some r :=
  C_ev follows_all drawLaw (by kernel_rfl) Try.func23 (by rfl) ((s23eq x0 w).trans h)
theorem e23 {x0 : Value} {w : World} {Q : Value × World → Prop} (h : Brings (s23 x0 w) Q) : Brings (Xcall Try.prog (Value.func (Fn.func 23) #[] #[]) #[x0] w) Q :=
  h.call (Xcall_fn Try.func23 (by decide +kernel) (by rfl) _ _ _ w) fun _ h => c23 h

/-! lychgate/lychgatelaw06.do -/
noncomputable def s24 (x0 x1 x2 : Value) (w : World) : Option (Value × World) :=
  (Xbox Try.prog 44 x2 w).bind fun r666 =>
  (QfieldAddr Try.prog 44 r666.1 0).bind fun v667 =>
  (Qload Try.prog 3 v667 r666.2).bind fun v668 =>
  (Qbin Try.prog Go.BinOp.eql 3 v668 (Go.Value.int Go.IntKind.i64 0)).bind fun v669 =>
  condK v669 (
    (QfieldAddr Try.prog 44 r666.1 1).bind fun v670 =>
    (Qload Try.prog 37 v670 r666.2.drew).bind fun v671 =>
    (QfieldAddr Try.prog 44 r666.1 2).bind fun v672 =>
    (Qload Try.prog 3 v672 r666.2.drew).bind fun v673 =>
    (QfieldAddr Try.prog 44 r666.1 3).bind fun v674 =>
    (Qload Try.prog 3 v674 r666.2.drew).bind fun v675 =>
    (Xcall Try.prog (Value.func (Fn.func 17) #[] #[]) #[x0, v671, v673, v675] r666.2.drew).bind fun r676 =>
    (QfieldAddr Try.prog 44 r666.1 1).bind fun v677 =>
    (Qload Try.prog 37 v677 r676.2).bind fun v678 =>
    (QfieldAddr Try.prog 44 r666.1 2).bind fun v679 =>
    (Qload Try.prog 3 v679 r676.2).bind fun v680 =>
    (QfieldAddr Try.prog 44 r666.1 3).bind fun v681 =>
    (Qload Try.prog 3 v681 r676.2).bind fun v682 =>
    (Xcall Try.prog (Value.func (Fn.func 43) #[] #[]) #[x1, v678, v680, v682] r676.2).bind fun r683 =>
    (Qbin Try.prog Go.BinOp.eql 40 r676.1 r683.1).bind fun v684 =>
    chkK ((Qload Try.prog 37 v677 r666.2.drew = some v678 ∧ Qload Try.prog 37 v677 r676.2 = some v678) ∧ ((Qload Try.prog 3 v679 r666.2.drew = some v680 ∧ Qload Try.prog 3 v679 r676.2 = some v680) ∧ ((Qload Try.prog 3 v681 r666.2.drew = some v682 ∧ Qload Try.prog 3 v681 r676.2 = some v682) ∧ True))) (
      some (v684, r683.2)
    )
  ) (
    (Qbin Try.prog Go.BinOp.eql 3 v668 (Go.Value.int Go.IntKind.i64 1)).bind fun v685 =>
    condK v685 (
      (QfieldAddr Try.prog 44 r666.1 1).bind fun v686 =>
      (Qload Try.prog 37 v686 r666.2.drew).bind fun v687 =>
      (QfieldAddr Try.prog 44 r666.1 3).bind fun v688 =>
      (Qload Try.prog 3 v688 r666.2.drew).bind fun v689 =>
      (Xcall Try.prog (Value.func (Fn.func 20) #[] #[]) #[x0, v687, v689] r666.2.drew).bind fun r690 =>
      (QfieldAddr Try.prog 44 r666.1 1).bind fun v691 =>
      (Qload Try.prog 37 v691 r690.2).bind fun v692 =>
      (QfieldAddr Try.prog 44 r666.1 3).bind fun v693 =>
      (Qload Try.prog 3 v693 r690.2).bind fun v694 =>
      (Xcall Try.prog (Value.func (Fn.func 44) #[] #[]) #[x1, v692, v694] r690.2).bind fun r695 =>
      (Qbin Try.prog Go.BinOp.eql 40 r690.1 r695.1).bind fun v696 =>
      chkK ((Qload Try.prog 37 v691 r666.2.drew = some v692 ∧ Qload Try.prog 37 v691 r690.2 = some v692) ∧ ((Qload Try.prog 3 v693 r666.2.drew = some v694 ∧ Qload Try.prog 3 v693 r690.2 = some v694) ∧ True)) (
        some (v696, r695.2)
      )
    ) (
      (Qbin Try.prog Go.BinOp.eql 3 v668 (Go.Value.int Go.IntKind.i64 2)).bind fun v697 =>
      condK v697 (
        (QfieldAddr Try.prog 44 r666.1 1).bind fun v698 =>
        (Qload Try.prog 37 v698 r666.2.drew).bind fun v699 =>
        (Xcall Try.prog (Value.func (Fn.func 21) #[] #[]) #[x0, v699] r666.2.drew).bind fun r700 =>
        (QfieldAddr Try.prog 44 r666.1 1).bind fun v701 =>
        (Qload Try.prog 37 v701 r700.2).bind fun v702 =>
        (Xcall Try.prog (Value.func (Fn.func 45) #[] #[]) #[x1, v702] r700.2).bind fun r703 =>
        (Qbin Try.prog Go.BinOp.eql 40 r700.1 r703.1).bind fun v704 =>
        chkK ((Qload Try.prog 37 v701 r666.2.drew = some v702 ∧ Qload Try.prog 37 v701 r700.2 = some v702) ∧ True) (
          some (v704, r703.2)
        )
      ) (
        some ((Go.Value.bool true), r666.2)
      )
    )
  )
theorem s24eq (x0 x1 x2 : Value) (w : World) : evK Try.prog 24 none (bodyOf Try.f24) none _ { tmps := (([x0, x1, x2] : List Value) ++ List.replicate (54 - 3) undef).toArray, defers := [] } w (leaveK Try.prog Try.f24) = s24 x0 x1 x2 w := by kernel_rfl
theorem c24 {x0 x1 x2 : Value} {w : World} {r : Value × World} (h : s24 x0 x1 x2 w = some r) : C Try.prog 24 #[x0, x1, x2] w = some r :=
  C_ev follows_all drawLaw (by kernel_rfl) Try.func24 (by rfl) ((s24eq x0 x1 x2 w).trans h)
theorem e24 {x0 x1 x2 : Value} {w : World} {Q : Value × World → Prop} (h : Brings (s24 x0 x1 x2 w) Q) : Brings (Xcall Try.prog (Value.func (Fn.func 24) #[] #[]) #[x0, x1, x2] w) Q :=
  h.call (Xcall_fn Try.func24 (by decide +kernel) (by rfl) _ _ _ w) fun _ h => c24 h

/-! (*lychgate/table.Table).First -/
noncomputable def s25 (x0 : Value) (w : World) : Option (Value × World) :=
  (Xalloc Try.prog 37 w).bind fun r705 =>
  (Qbin Try.prog Go.BinOp.eql 25 x0 (Go.Value.pointer none)).bind fun v706 =>
  (guardQ v706 false (Qnil (gv (isB v706 false) x0))).bind fun v707 =>
  (guardQ v706 false (QfieldAddr Try.prog 70 v707 0)).bind fun v708 =>
  (guardQ v706 false (QfieldAddr Try.prog 68 v708 2)).bind fun v709 =>
  (guardQ v706 false (Qload Try.prog 3 v709 r705.2)).bind fun v710 =>
  (guardQ v706 false (Qbin Try.prog Go.BinOp.eql 3 v710 (Go.Value.int Go.IntKind.i64 0))).bind fun v711 =>
  (Qpick v706 (Go.Value.bool true) v711).bind fun v712 =>
  condK v712 (
    (Qbuild Try.prog 37 #[] r705.2).bind fun v713 =>
    (Xstore Try.prog 37 r705.1 v713 r705.2).bind fun r714 =>
    ((((Qload Try.prog 37 r705.1 r714.2).bind fun v => ((((some [])).map fun vs => (Go.Value.bool false) :: vs)).map fun vs => v :: vs)).map oneOf).map fun v => (v, r714.2)
  ) (
    (Qnil x0).bind fun v715 =>
    (QfieldAddr Try.prog 70 v715 0).bind fun v716 =>
    (Xcall Try.prog (Value.func (Fn.func 28) #[] #[]) #[v716] r705.2).bind fun r717 =>
    (Xcall Try.prog (Value.func (Fn.func 47) #[] #[]) #[r717.1] r717.2).bind fun r718 =>
    (Xcall Try.prog (Value.func (Fn.func 46) #[] #[]) #[r718.1, (Value.func (Fn.func 30) #[] #[])] r718.2).bind fun r719 =>
    (Qfield Try.prog 73 r719.1 0 r719.2).bind fun v720 =>
    (Xstore Try.prog 37 r705.1 v720 r719.2).bind fun r721 =>
    ((((Qload Try.prog 37 r705.1 r721.2).bind fun v => ((((some [])).map fun vs => (Go.Value.bool true) :: vs)).map fun vs => v :: vs)).map oneOf).map fun v => (v, r721.2)
  )
theorem s25eq (x0 : Value) (w : World) : evK Try.prog 25 none (bodyOf Try.f25) none _ { tmps := (([x0] : List Value) ++ List.replicate (22 - 1) undef).toArray, defers := [] } w (leaveK Try.prog Try.f25) = s25 x0 w := by kernel_rfl
theorem c25 {x0 : Value} {w : World} {r : Value × World} (h : s25 x0 w = some r) : C Try.prog 25 #[x0] w = some r :=
  C_ev follows_all drawLaw (by kernel_rfl) Try.func25 (by rfl) ((s25eq x0 w).trans h)
theorem e25 {x0 : Value} {w : World} {Q : Value × World → Prop} (h : Brings (s25 x0 w) Q) : Brings (Xcall Try.prog (Value.func (Fn.func 25) #[] #[]) #[x0] w) Q :=
  h.call (Xcall_fn Try.func25 (by decide +kernel) (by rfl) _ _ _ w) fun _ h => c25 h

/-! lychgate/table.New -/
noncomputable def s26 (x0 : Value) (w : World) : Option (Value × World) :=
  (Qbin Try.prog Go.BinOp.lss 3 x0 (Go.Value.int Go.IntKind.i64 1)).bind fun v722 =>
  (guardQ v722 false (Qbin Try.prog Go.BinOp.gtr 3 (gv (isB v722 false) x0) (Go.Value.int Go.IntKind.i64 4096))).bind fun v723 =>
  (Qpick v722 (Go.Value.bool true) v723).bind fun v724 =>
  condK v724 (
    some ((Go.Value.pointer none), w)
  ) (
    (XmakeSlice Try.prog 65 (Go.Value.int Go.IntKind.i64 64) (Go.Value.int Go.IntKind.i64 64) w).bind fun r725 =>
    (Qbuild Try.prog 68 #[(0, r725.1), (1, (Value.func (Fn.func 48) #[] #[]))] r725.2).bind fun v726 =>
    (Qbuild Try.prog 70 #[(0, v726), (1, x0)] r725.2).bind fun v727 =>
    (Xbox Try.prog 70 v727 r725.2).bind fun r728 =>
    some (r728.1, r728.2)
  )
theorem s26eq (x0 : Value) (w : World) : evK Try.prog 26 none (bodyOf Try.f26) none _ { tmps := (([x0] : List Value) ++ List.replicate (14 - 1) undef).toArray, defers := [] } w (leaveK Try.prog Try.f26) = s26 x0 w := by kernel_rfl
theorem c26 {x0 : Value} {w : World} {r : Value × World} (h : s26 x0 w = some r) : C Try.prog 26 #[x0] w = some r :=
  C_ev follows_all drawLaw (by kernel_rfl) Try.func26 (by rfl) ((s26eq x0 w).trans h)
theorem e26 {x0 : Value} {w : World} {Q : Value × World → Prop} (h : Brings (s26 x0 w) Q) : Brings (Xcall Try.prog (Value.func (Fn.func 26) #[] #[]) #[x0] w) Q :=
  h.call (Xcall_fn Try.func26 (by decide +kernel) (by rfl) _ _ _ w) fun _ h => c26 h

/-! lychgate/lychgateref06.New -/
noncomputable def s27 (x0 : Value) (w : World) : Option (Value × World) :=
  (Qbin Try.prog Go.BinOp.lss 3 x0 (Go.Value.int Go.IntKind.i64 1)).bind fun v729 =>
  (guardQ v729 false (Qbin Try.prog Go.BinOp.gtr 3 (gv (isB v729 false) x0) (Go.Value.int Go.IntKind.i64 4096))).bind fun v730 =>
  (Qpick v729 (Go.Value.bool true) v730).bind fun v731 =>
  condK v731 (
    some ((Go.Value.pointer none), w)
  ) (
    (Qbuild Try.prog 87 #[(1, x0)] w).bind fun v732 =>
    (Xbox Try.prog 87 v732 w).bind fun r733 =>
    some (r733.1, r733.2)
  )
theorem s27eq (x0 : Value) (w : World) : evK Try.prog 27 none (bodyOf Try.f27) none _ { tmps := (([x0] : List Value) ++ List.replicate (12 - 1) undef).toArray, defers := [] } w (leaveK Try.prog Try.f27) = s27 x0 w := by kernel_rfl
theorem c27 {x0 : Value} {w : World} {r : Value × World} (h : s27 x0 w = some r) : C Try.prog 27 #[x0] w = some r :=
  C_ev follows_all drawLaw (by kernel_rfl) Try.func27 (by rfl) ((s27eq x0 w).trans h)
theorem e27 {x0 : Value} {w : World} {Q : Value × World → Prop} (h : Brings (s27 x0 w) Q) : Brings (Xcall Try.prog (Value.func (Fn.func 27) #[] #[]) #[x0] w) Q :=
  h.call (Xcall_fn Try.func27 (by decide +kernel) (by rfl) _ _ _ w) fun _ h => c27 h

/-! (*lychgate/table.buckets[lychgate/api.Tuple, int]).all -/
noncomputable def s28 (x0 : Value) (w : World) : Option (Value × World) :=
  (Xbox Try.prog 90 x0 w).bind fun r734 =>
  (some (Value.func (Go.Fn.func 49) #[] #[r734.1])).bind fun v735 =>
  some (v735, r734.2)
theorem s28eq (x0 : Value) (w : World) : evK Try.prog 28 none (bodyOf Try.f28) none _ { tmps := (([x0] : List Value) ++ List.replicate (4 - 1) undef).toArray, defers := [] } w (leaveK Try.prog Try.f28) = s28 x0 w := by kernel_rfl
theorem c28 {x0 : Value} {w : World} {r : Value × World} (h : s28 x0 w = some r) : C Try.prog 28 #[x0] w = some r :=
  C_ev follows_all drawLaw (by kernel_rfl) Try.func28 (by rfl) ((s28eq x0 w).trans h)
theorem e28 {x0 : Value} {w : World} {Q : Value × World → Prop} (h : Brings (s28 x0 w) Q) : Brings (Xcall Try.prog (Value.func (Fn.func 28) #[] #[]) #[x0] w) Q :=
  h.call (Xcall_fn Try.func28 (by decide +kernel) (by rfl) _ _ _ w) fun _ h => c28 h

/-! slices.SortFunc[[]lychgate/table.row[lychgate/api.Tuple, int],lychgate/table.row[lychgate/api.Tuple, int]] -/
noncomputable def s29 (x0 x1 : Value) (w : World) : Option (Value × World) :=
  (Qlen Try.prog #[62] 3 #[x0] w).bind fun v736 =>
  (Qconv Try.prog 3 93 v736).bind fun v737 =>
  (Xcall Try.prog (Value.func (Fn.func 51) #[] #[]) #[v737] w).bind fun r738 =>
  (Xcall Try.prog (Value.func (Fn.func 50) #[] #[]) #[x0, (Go.Value.int Go.IntKind.i64 0), v736, r738.1, x1] r738.2).bind fun r739 =>
  some ((Value.tuple #[]), r739.2)
theorem s29eq (x0 x1 : Value) (w : World) : evK Try.prog 29 none (bodyOf Try.f29) none _ { tmps := (([x0, x1] : List Value) ++ List.replicate (14 - 2) undef).toArray, defers := [] } w (leaveK Try.prog Try.f29) = s29 x0 x1 w := by kernel_rfl
theorem c29 {x0 x1 : Value} {w : World} {r : Value × World} (h : s29 x0 x1 w = some r) : C Try.prog 29 #[x0, x1] w = some r :=
  C_ev follows_all drawLaw (by kernel_rfl) Try.func29 (by rfl) ((s29eq x0 x1 w).trans h)
theorem e29 {x0 x1 : Value} {w : World} {Q : Value × World → Prop} (h : Brings (s29 x0 x1 w) Q) : Brings (Xcall Try.prog (Value.func (Fn.func 29) #[] #[]) #[x0, x1] w) Q :=
  h.call (Xcall_fn Try.func29 (by decide +kernel) (by rfl) _ _ _ w) fun _ h => c29 h

/-! lychgate/table.inOrder[lychgate/api.Tuple,int] -/
noncomputable def s30 (x0 x1 : Value) (w : World) : Option (Value × World) :=
  (Xbox Try.prog 73 x0 w).bind fun r740 =>
  (Xbox Try.prog 73 x1 r740.2).bind fun r741 =>
  (QfieldAddr Try.prog 73 r740.1 2).bind fun v742 =>
  (Qload Try.prog 3 v742 r741.2.drew).bind fun v743 =>
  (QfieldAddr Try.prog 73 r741.1 2).bind fun v744 =>
  (Qload Try.prog 3 v744 r741.2.drew).bind fun v745 =>
  (Xcall Try.prog (Value.func (Fn.func 53) #[] #[]) #[v743, v745] r741.2.drew).bind fun r746 =>
  (QfieldAddr Try.prog 73 r740.1 3).bind fun v747 =>
  (Qload Try.prog 3 v747 r746.2).bind fun v748 =>
  (QfieldAddr Try.prog 73 r741.1 3).bind fun v749 =>
  (Qload Try.prog 3 v749 r746.2).bind fun v750 =>
  (Xcall Try.prog (Value.func (Fn.func 53) #[] #[]) #[v748, v750] r746.2).bind fun r751 =>
  (XbuildSlice Try.prog 114 2 #[(0, r746.1), (1, r751.1)] r751.2).bind fun r752 =>
  (Xcall Try.prog (Value.func (Fn.func 52) #[] #[]) #[r752.1] r752.2).bind fun r753 =>
  chkK ((Qload Try.prog 3 v747 r741.2.drew = some v748 ∧ Qload Try.prog 3 v747 r746.2 = some v748) ∧ ((Qload Try.prog 3 v749 r741.2.drew = some v750 ∧ Qload Try.prog 3 v749 r746.2 = some v750) ∧ True)) (
    some (r753.1, r753.2)
  )
theorem s30eq (x0 x1 : Value) (w : World) : evK Try.prog 30 none (bodyOf Try.f30) none _ { tmps := (([x0, x1] : List Value) ++ List.replicate (17 - 2) undef).toArray, defers := [] } w (leaveK Try.prog Try.f30) = s30 x0 x1 w := by kernel_rfl
theorem c30 {x0 x1 : Value} {w : World} {r : Value × World} (h : s30 x0 x1 w = some r) : C Try.prog 30 #[x0, x1] w = some r :=
  C_ev follows_all drawLaw (by kernel_rfl) Try.func30 (by rfl) ((s30eq x0 x1 w).trans h)
theorem e30 {x0 x1 : Value} {w : World} {Q : Value × World → Prop} (h : Brings (s30 x0 x1 w) Q) : Brings (Xcall Try.prog (Value.func (Fn.func 30) #[] #[]) #[x0, x1] w) Q :=
  h.call (Xcall_fn Try.func30 (by decide +kernel) (by rfl) _ _ _ w) fun _ h => c30 h

/-! (*lychgate/table.buckets[lychgate/api.Tuple, int]).find -/
noncomputable def s31 (x0 x1 : Value) (w : World) : Option (Value × World) :=
  (Xbox Try.prog 37 x1 w).bind fun r754 =>
  (Qload Try.prog 37 r754.1 r754.2).bind fun v755 =>
  (Xcall Try.prog (Value.func (Fn.func 34) #[] #[]) #[x0, v755] r754.2).bind fun r756 =>
  (Qnil r756.1).bind fun v757 =>
  (Qload Try.prog 62 v757 r756.2).bind fun v758 =>
  (some (Value.func (Go.Fn.func 55) #[] #[r754.1])).bind fun v759 =>
  (Xcall Try.prog (Value.func (Fn.func 54) #[] #[]) #[v758, v759] r756.2).bind fun r760 =>
  (Qbin Try.prog Go.BinOp.lss 3 r760.1 (Go.Value.int Go.IntKind.i64 0)).bind fun v761 =>
  condK v761 (
    some ((Go.Value.pointer none), r760.2)
  ) (
    (QindexAddr Try.prog 62 v758 r760.1 r760.2).bind fun v762 =>
    some (v762, r760.2)
  )
theorem s31eq (x0 x1 : Value) (w : World) : evK Try.prog 31 none (bodyOf Try.f31) none _ { tmps := (([x0, x1] : List Value) ++ List.replicate (20 - 2) undef).toArray, defers := [] } w (leaveK Try.prog Try.f31) = s31 x0 x1 w := by kernel_rfl
theorem c31 {x0 x1 : Value} {w : World} {r : Value × World} (h : s31 x0 x1 w = some r) : C Try.prog 31 #[x0, x1] w = some r :=
  C_ev follows_all drawLaw (by kernel_rfl) Try.func31 (by rfl) ((s31eq x0 x1 w).trans h)
theorem e31 {x0 x1 : Value} {w : World} {Q : Value × World → Prop} (h : Brings (s31 x0 x1 w) Q) : Brings (Xcall Try.prog (Value.func (Fn.func 31) #[] #[]) #[x0, x1] w) Q :=
  h.call (Xcall_fn Try.func31 (by decide +kernel) (by rfl) _ _ _ w) fun _ h => c31 h

/-! lychgate/tuple.Key -/
noncomputable def s32 (x0 : Value) (w : World) : Option (Value × World) :=
  (Xbox Try.prog 37 x0 w).bind fun r763 =>
  (Xalloc Try.prog 37 r763.2).bind fun r764 =>
  (Qload Try.prog 37 r763.1 r764.2).bind fun v765 =>
  (QfieldAddr Try.prog 37 r763.1 1).bind fun v766 =>
  (Qload Try.prog 35 v766 r764.2).bind fun v767 =>
  (QfieldAddr Try.prog 37 r763.1 2).bind fun v768 =>
  (Qload Try.prog 35 v768 r764.2).bind fun v769 =>
  (QfieldAddr Try.prog 37 r763.1 3).bind fun v770 =>
  (Qload Try.prog 23 v770 r764.2).bind fun v771 =>
  (QfieldAddr Try.prog 37 r763.1 4).bind fun v772 =>
  (Qload Try.prog 23 v772 r764.2).bind fun v773 =>
  (Qbuild Try.prog 37 #[(0, (Go.Value.int Go.IntKind.u8 47)), (1, v767), (2, v769), (3, v771), (4, v773)] r764.2).bind fun v774 =>
  (Qbin Try.prog Go.BinOp.eql 37 v765 v774).bind fun v775 =>
  condK v775 (
    (QfieldAddr Try.prog 37 r763.1 3).bind fun v776 =>
    (Xstore Try.prog 23 v776 (Go.Value.int Go.IntKind.u16 0) r764.2).bind fun r777 =>
    (Qload Try.prog 37 r763.1 r777.2).bind fun v778 =>
    (Xstore Try.prog 37 r764.1 v778 r777.2).bind fun r779 =>
    ((((Qload Try.prog 37 r764.1 r779.2).bind fun v => ((some [])).map fun vs => v :: vs)).map oneOf).map fun v => (v, r779.2)
  ) (
    (Qload Try.prog 37 r763.1 r764.2).bind fun v780 =>
    (Xstore Try.prog 37 r764.1 v780 r764.2).bind fun r781 =>
    ((((Qload Try.prog 37 r764.1 r781.2).bind fun v => ((some [])).map fun vs => v :: vs)).map oneOf).map fun v => (v, r781.2)
  )
theorem s32eq (x0 : Value) (w : World) : evK Try.prog 32 none (bodyOf Try.f32) none _ { tmps := (([x0] : List Value) ++ List.replicate (16 - 1) undef).toArray, defers := [] } w (leaveK Try.prog Try.f32) = s32 x0 w := by kernel_rfl
theorem c32 {x0 : Value} {w : World} {r : Value × World} (h : s32 x0 w = some r) : C Try.prog 32 #[x0] w = some r :=
  C_ev follows_all drawLaw (by kernel_rfl) Try.func32 (by rfl) ((s32eq x0 w).trans h)
theorem e32 {x0 : Value} {w : World} {Q : Value × World → Prop} (h : Brings (s32 x0 w) Q) : Brings (Xcall Try.prog (Value.func (Fn.func 32) #[] #[]) #[x0] w) Q :=
  h.call (Xcall_fn Try.func32 (by decide +kernel) (by rfl) _ _ _ w) fun _ h => c32 h

/-! (*lychgate/table.Table).may -/
noncomputable def s33 (x0 x1 : Value) (w : World) : Option (Value × World) :=
  (Qbin Try.prog Go.BinOp.eql 25 x0 (Go.Value.pointer none)).bind fun v782 =>
  condK v782 (
    some ((Go.Value.int Go.IntKind.i64 1), w)
  ) (
    (Qbin Try.prog Go.BinOp.lss 3 x1 (Go.Value.int Go.IntKind.i64 0)).bind fun v783 =>
    (guardQ v783 false (Qbin Try.prog Go.BinOp.gtr 3 (gv (isB v783 false) x1) (Go.Value.int Go.IntKind.i64 1099511627776))).bind fun v784 =>
    (Qpick v783 (Go.Value.bool true) v784).bind fun v785 =>
    condK v785 (
      some ((Go.Value.int Go.IntKind.i64 2), w)
    ) (
      some ((Go.Value.int Go.IntKind.i64 0), w)
    )
  )
theorem s33eq (x0 x1 : Value) (w : World) : evK Try.prog 33 none (bodyOf Try.f33) none _ { tmps := (([x0, x1] : List Value) ++ List.replicate (15 - 2) undef).toArray, defers := [] } w (leaveK Try.prog Try.f33) = s33 x0 x1 w := by kernel_rfl
theorem c33 {x0 x1 : Value} {w : World} {r : Value × World} (h : s33 x0 x1 w = some r) : C Try.prog 33 #[x0, x1] w = some r :=
  C_ev follows_all drawLaw (by kernel_rfl) Try.func33 (by rfl) ((s33eq x0 x1 w).trans h)
theorem e33 {x0 x1 : Value} {w : World} {Q : Value × World → Prop} (h : Brings (s33 x0 x1 w) Q) : Brings (Xcall Try.prog (Value.func (Fn.func 33) #[] #[]) #[x0, x1] w) Q :=
  h.call (Xcall_fn Try.func33 (by decide +kernel) (by rfl) _ _ _ w) fun _ h => c33 h

/-! (*lychgate/table.buckets[lychgate/api.Tuple, int]).bucket -/
noncomputable def s34 (x0 x1 : Value) (w : World) : Option (Value × World) :=
  (Xbox Try.prog 37 x1 w).bind fun r786 =>
  (Qnil x0).bind fun v787 =>
  (QfieldAddr Try.prog 68 v787 0).bind fun v788 =>
  (Qload Try.prog 65 v788 r786.2.drew).bind fun v789 =>
  (Qnil x0).bind fun v790 =>
  (QfieldAddr Try.prog 68 v790 1).bind fun v791 =>
  (Qload Try.prog 66 v791 r786.2.drew).bind fun v792 =>
  (Qload Try.prog 37 r786.1 r786.2.drew).bind fun v793 =>
  (Xcall Try.prog v792 #[v793] r786.2.drew).bind fun r794 =>
  (Qconv Try.prog 35 3 r794.1).bind fun v795 =>
  (Qnil x0).bind fun v796 =>
  (QfieldAddr Try.prog 68 v796 0).bind fun v797 =>
  (Qload Try.prog 65 v797 r794.2).bind fun v798 =>
  (Qlen Try.prog #[65] 3 #[v798] r794.2).bind fun v799 =>
  (Qbin Try.prog Go.BinOp.sub 3 v799 (Go.Value.int Go.IntKind.i64 1)).bind fun v800 =>
  (Qbin Try.prog Go.BinOp.and 3 v795 v800).bind fun v801 =>
  (QindexAddr Try.prog 65 v789 v801 r794.2).bind fun v802 =>
  chkK ((Qload Try.prog 65 v788 r786.2.drew = some v789 ∧ Qload Try.prog 65 v788 r794.2 = some v789) ∧ ((Qload Try.prog 65 v797 r786.2.drew = some v798 ∧ Qload Try.prog 65 v797 r794.2 = some v798) ∧ ((Qlen Try.prog #[65] 3 #[v798] r786.2.drew = some v799 ∧ Qlen Try.prog #[65] 3 #[v798] r794.2 = some v799) ∧ True))) (
    some (v802, r794.2)
  )
theorem s34eq (x0 x1 : Value) (w : World) : evK Try.prog 34 none (bodyOf Try.f34) none _ { tmps := (([x0, x1] : List Value) ++ List.replicate (24 - 2) undef).toArray, defers := [] } w (leaveK Try.prog Try.f34) = s34 x0 x1 w := by kernel_rfl
theorem c34 {x0 x1 : Value} {w : World} {r : Value × World} (h : s34 x0 x1 w = some r) : C Try.prog 34 #[x0, x1] w = some r :=
  C_ev follows_all drawLaw (by kernel_rfl) Try.func34 (by rfl) ((s34eq x0 x1 w).trans h)
theorem e34 {x0 x1 : Value} {w : World} {Q : Value × World → Prop} (h : Brings (s34 x0 x1 w) Q) : Brings (Xcall Try.prog (Value.func (Fn.func 34) #[] #[]) #[x0, x1] w) Q :=
  h.call (Xcall_fn Try.func34 (by decide +kernel) (by rfl) _ _ _ w) fun _ h => c34 h

/-! (*lychgate/lychgateref06.Table).Get -/
noncomputable def s35 (x0 x1 : Value) (w : World) : Option (Value × World) :=
  (Xbox Try.prog 37 x1 w).bind fun r803 =>
  (Qload Try.prog 37 r803.1 r803.2).bind fun v804 =>
  (Xcall Try.prog (Value.func (Fn.func 56) #[] #[]) #[x0, v804] r803.2).bind fun r805 =>
  (Qbin Try.prog Go.BinOp.lss 3 r805.1 (Go.Value.int Go.IntKind.i64 0)).bind fun v806 =>
  condK v806 (
    some ((Value.tuple #[(Go.Value.int Go.IntKind.i64 0), (Go.Value.int Go.IntKind.i64 0), (Go.Value.bool false)]), r805.2)
  ) (
    (Qnil x0).bind fun v807 =>
    (QfieldAddr Try.prog 87 v807 0).bind fun v808 =>
    (Qload Try.prog 85 v808 r805.2.drew).bind fun v809 =>
    (QindexAddr Try.prog 85 v809 r805.1 r805.2.drew).bind fun v810 =>
    (QfieldAddr Try.prog 99 v810 1).bind fun v811 =>
    (Qload Try.prog 3 v811 r805.2.drew).bind fun v812 =>
    (Qnil x0).bind fun v813 =>
    (QfieldAddr Try.prog 87 v813 0).bind fun v814 =>
    (Qload Try.prog 85 v814 r805.2.drew).bind fun v815 =>
    (QindexAddr Try.prog 85 v815 r805.1 r805.2.drew).bind fun v816 =>
    (QfieldAddr Try.prog 99 v816 2).bind fun v817 =>
    (Qload Try.prog 3 v817 r805.2.drew).bind fun v818 =>
    chkK True (
      some ((Value.tuple #[v812, v818, (Go.Value.bool true)]), r805.2.drew)
    )
  )
theorem s35eq (x0 x1 : Value) (w : World) : evK Try.prog 35 none (bodyOf Try.f35) none _ { tmps := (([x0, x1] : List Value) ++ List.replicate (29 - 2) undef).toArray, defers := [] } w (leaveK Try.prog Try.f35) = s35 x0 x1 w := by kernel_rfl
theorem c35 {x0 x1 : Value} {w : World} {r : Value × World} (h : s35 x0 x1 w = some r) : C Try.prog 35 #[x0, x1] w = some r :=
  C_ev follows_all drawLaw (by kernel_rfl) Try.func35 (by rfl) ((s35eq x0 x1 w).trans h)
theorem e35 {x0 x1 : Value} {w : World} {Q : Value × World → Prop} (h : Brings (s35 x0 x1 w) Q) : Brings (Xcall Try.prog (Value.func (Fn.func 35) #[] #[]) #[x0, x1] w) Q :=
  h.call (Xcall_fn Try.func35 (by decide +kernel) (by rfl) _ _ _ w) fun _ h => c35 h

/-! (*lychgate/lychgateref06.Table).First -/
noncomputable def s36 (x0 : Value) (w : World) : Option (Value × World) :=
  (Xalloc Try.prog 37 w).bind fun r819 =>
  (Xcall Try.prog (Value.func (Fn.func 57) #[] #[]) #[x0] r819.2).bind fun r820 =>
  (Qlen Try.prog #[85] 3 #[r820.1] r820.2).bind fun v821 =>
  (Qbin Try.prog Go.BinOp.eql 3 v821 (Go.Value.int Go.IntKind.i64 0)).bind fun v822 =>
  condK v822 (
    (Qbuild Try.prog 37 #[] r820.2).bind fun v823 =>
    (Xstore Try.prog 37 r819.1 v823 r820.2).bind fun r824 =>
    ((((Qload Try.prog 37 r819.1 r824.2).bind fun v => ((((some [])).map fun vs => (Go.Value.bool false) :: vs)).map fun vs => v :: vs)).map oneOf).map fun v => (v, r824.2)
  ) (
    (QindexAddr Try.prog 85 r820.1 (Go.Value.int Go.IntKind.i64 0) r820.2).bind fun v825 =>
    (QfieldAddr Try.prog 99 v825 0).bind fun v826 =>
    (Qload Try.prog 37 v826 r820.2).bind fun v827 =>
    (Xstore Try.prog 37 r819.1 v827 r820.2).bind fun r828 =>
    ((((Qload Try.prog 37 r819.1 r828.2).bind fun v => ((((some [])).map fun vs => (Go.Value.bool true) :: vs)).map fun vs => v :: vs)).map oneOf).map fun v => (v, r828.2)
  )
theorem s36eq (x0 : Value) (w : World) : evK Try.prog 36 none (bodyOf Try.f36) none _ { tmps := (([x0] : List Value) ++ List.replicate (15 - 1) undef).toArray, defers := [] } w (leaveK Try.prog Try.f36) = s36 x0 w := by kernel_rfl
theorem c36 {x0 : Value} {w : World} {r : Value × World} (h : s36 x0 w = some r) : C Try.prog 36 #[x0] w = some r :=
  C_ev follows_all drawLaw (by kernel_rfl) Try.func36 (by rfl) ((s36eq x0 w).trans h)
theorem e36 {x0 : Value} {w : World} {Q : Value × World → Prop} (h : Brings (s36 x0 w) Q) : Brings (Xcall Try.prog (Value.func (Fn.func 36) #[] #[]) #[x0] w) Q :=
  h.call (Xcall_fn Try.func36 (by decide +kernel) (by rfl) _ _ _ w) fun _ h => c36 h

/-! (*lychgate/lychgateref06.Table).Len -/
noncomputable def s37 (x0 : Value) (w : World) : Option (Value × World) :=
  (Qbin Try.prog Go.BinOp.eql 26 x0 (Go.Value.pointer none)).bind fun v829 =>
  condK v829 (
    some ((Go.Value.int Go.IntKind.i64 0), w)
  ) (
    (Qnil x0).bind fun v830 =>
    (QfieldAddr Try.prog 87 v830 0).bind fun v831 =>
    (Qload Try.prog 85 v831 w).bind fun v832 =>
    (Qlen Try.prog #[85] 3 #[v832] w).bind fun v833 =>
    some (v833, w)
  )
theorem s37eq (x0 : Value) (w : World) : evK Try.prog 37 none (bodyOf Try.f37) none _ { tmps := (([x0] : List Value) ++ List.replicate (10 - 1) undef).toArray, defers := [] } w (leaveK Try.prog Try.f37) = s37 x0 w := by kernel_rfl
theorem c37 {x0 : Value} {w : World} {r : Value × World} (h : s37 x0 w = some r) : C Try.prog 37 #[x0] w = some r :=
  C_ev follows_all drawLaw (by kernel_rfl) Try.func37 (by rfl) ((s37eq x0 w).trans h)
theorem e37 {x0 : Value} {w : World} {Q : Value × World → Prop} (h : Brings (s37 x0 w) Q) : Brings (Xcall Try.prog (Value.func (Fn.func 37) #[] #[]) #[x0] w) Q :=
  h.call (Xcall_fn Try.func37 (by decide +kernel) (by rfl) _ _ _ w) fun _ h => c37 h

/-! (*lychgate/lychgateref06.Table).Due -/
noncomputable def s38K0 : Exit → Act → World → Option (Value × World) := seqK (fun a w => evK Try.prog 38 none (nav [1, 1, 1, 1] (bodyOf Try.f38)) none _ a w (leaveK Try.prog Try.f38)) (leaveK Try.prog Try.f38)
noncomputable def s38K1 : Exit → Act → World → Option (Value × World) := blockK 0 s38K0
noncomputable def s38L0 (s : List Value) (d : List Deferred) (w : World) : Option (Value × World) := loopN Try.prog 38 none (nav [1, 1, 1, 0, 1, 0, 0] (bodyOf Try.f38)) s38K1 s d w
noncomputable def s38B0 : List Value → World → Option (Exit × List Value × World)
  | [x1, x5, x6, x7], w =>
    (Qlen Try.prog #[85] 3 #[x6] w).bind fun v835 =>
    (Qbin Try.prog Go.BinOp.lss 3 x7 v835).bind fun v836 =>
    condK v836 (
      (QindexAddr Try.prog 85 x6 x7 w).bind fun v837 =>
      (QfieldAddr Try.prog 99 v837 2).bind fun v838 =>
      (Qload Try.prog 3 v838 w).bind fun v839 =>
      (Qbin Try.prog Go.BinOp.leq 3 v839 x1).bind fun v840 =>
      condK v840 (
        (QindexAddr Try.prog 85 x6 x7 w).bind fun v841 =>
        (QfieldAddr Try.prog 99 v841 0).bind fun v842 =>
        (Qload Try.prog 37 v842 w).bind fun v843 =>
        (XbuildSlice Try.prog 30 1 #[(0, v843)] w).bind fun r844 =>
        (Xbi Try.prog Go.Builtin.append #[30, 30] 30 #[x5, r844.1] r844.2).bind fun r845 =>
        (Qbin Try.prog Go.BinOp.add 3 x7 (Go.Value.int Go.IntKind.i64 1)).bind fun v846 =>
        some (Exit.normal, [x1, r845.1, x6, v846], r845.2)
      ) (
        (Qbin Try.prog Go.BinOp.add 3 x7 (Go.Value.int Go.IntKind.i64 1)).bind fun v847 =>
        some (Exit.normal, [x1, x5, x6, v847], w)
      )
    ) (
      some ((Exit.exit 0), [x1, x5, x6, x7], w)
    )
  | _, _ => none
noncomputable def s38R0 : Exit → List Value → World → Option (Value × World)
  | (Exit.exit 0), [_, x5, _, _], w =>
    some (x5, w)
  | _, _, _ => none
noncomputable def s38raw (x0 x1 : Value) (w : World) : Option (Value × World) :=
  (Xcall Try.prog (Value.func (Fn.func 57) #[] #[]) #[x0] w).bind fun r834 =>
  s38L0 [x0, x1, undef, undef, (Go.Value.slice none 0 0), (Go.Value.slice none 0 0), r834.1, (Go.Value.int Go.IntKind.i64 0), x0, r834.1, undef, undef, undef, undef, undef, undef, undef, undef, undef, undef, undef, undef, undef, undef, undef, undef, undef, undef, undef, undef, undef, undef] [] r834.2
noncomputable def s38 (x0 x1 : Value) (w : World) : Option (Value × World) :=
  (Xcall Try.prog (Value.func (Fn.func 57) #[] #[]) #[x0] w).bind fun r834 =>
  loopR s38B0 s38R0 [x1, (Go.Value.slice none 0 0), r834.1, (Go.Value.int Go.IntKind.i64 0)] r834.2
theorem s38B0eq (x1 x5 x6 x7 : Value) (w : World) (g : Nat → Value) (d : List Deferred) : evK Try.prog 38 none (nav [1, 1, 1, 0, 1, 0, 0] (bodyOf Try.f38)) none _ (frm 32 (setL [1, 5, 6, 7] [x1, x5, x6, x7] g) d) w (projK [1, 5, 6, 7]) = s38B0 [x1, x5, x6, x7] w := by kernel_rfl
theorem s38R0x0eq (x1 x5 x6 x7 : Value) (g : Nat → Value) (w : World) : s38K1 (Exit.exit 0) (frm 32 (setL [1, 5, 6, 7] [x1, x5, x6, x7] g) []) w = s38R0 (Exit.exit 0) [x1, x5, x6, x7] w := by kernel_rfl
theorem s38R0of : ∀ (e : Exit) (xs : List Value) (w : World) (g : Nat → Value) (y : _), s38R0 e xs w = some y → s38K1 e (frm 32 (setL [1, 5, 6, 7] xs g) []) w = some y := by
  intro e xs w g y h
  unfold s38R0 at h
  split at h
  · exact (s38R0x0eq _ _ _ _ g _).trans h
  · cases h
set_option maxRecDepth 20000 in
theorem s38L0of {s0 s1 s2 s3 s4 s5 s6 s7 s8 s9 s10 s11 s12 s13 s14 s15 s16 s17 s18 s19 s20 s21 s22 s23 s24 s25 s26 s27 s28 s29 s30 s31 : Value} {w : World} {r : _} (h : loopR s38B0 s38R0 [s1, s5, s6, s7] w = some r) : s38L0 [s0, s1, s2, s3, s4, s5, s6, s7, s8, s9, s10, s11, s12, s13, s14, s15, s16, s17, s18, s19, s20, s21, s22, s23, s24, s25, s26, s27, s28, s29, s30, s31] [] w = some r :=
  loopN_of (B := s38B0) (R := s38R0) (n := 32) (live := [1, 5, 6, 7]) (fun xs w g y hl h => match xs, hl, h with | [x1, x5, x6, x7], _, h => (s38B0eq x1 x5 x6 x7 w g []).trans h) (by kernel_rfl) (s38R0of) (fun i => ([s0, s1, s2, s3, s4, s5, s6, s7, s8, s9, s10, s11, s12, s13, s14, s15, s16, s17, s18, s19, s20, s21, s22, s23, s24, s25, s26, s27, s28, s29, s30, s31] : List Value).getD i undef) (by kernel_rfl) rfl h
theorem s38eq (x0 x1 : Value) (w : World) : evK Try.prog 38 none (bodyOf Try.f38) none _ { tmps := (([x0, x1] : List Value) ++ List.replicate (32 - 2) undef).toArray, defers := [] } w (leaveK Try.prog Try.f38) = s38raw x0 x1 w := by kernel_rfl
theorem c38 {x0 x1 : Value} {w : World} {r : Value × World} (h : s38 x0 x1 w = some r) : C Try.prog 38 #[x0, x1] w = some r :=
  C_ev follows_all drawLaw (by kernel_rfl) Try.func38 (by rfl) ((s38eq x0 x1 w).trans (show s38raw x0 x1 w = some r from (Ev.bind_mono fun (r834 : Value × World) => (s38L0of)) h))
theorem e38 {x0 x1 : Value} {w : World} {Q : Value × World → Prop} (h : Brings (s38 x0 x1 w) Q) : Brings (Xcall Try.prog (Value.func (Fn.func 38) #[] #[]) #[x0, x1] w) Q :=
  h.call (Xcall_fn Try.func38 (by decide +kernel) (by rfl) _ _ _ w) fun _ h => c38 h

/-! slices.DeleteFunc[[]lychgate/table.row[lychgate/api.Tuple, int],lychgate/table.row[lychgate/api.Tuple, int]] -/
noncomputable def s39K0 : Exit → Act → World → Option (Value × World) := seqK (fun a w => evK Try.prog 39 none (nav [1, 1, 1, 1] (bodyOf Try.f39)) none _ a w (leaveK Try.prog Try.f39)) (leaveK Try.prog Try.f39)
noncomputable def s39K1 : Exit → Act → World → Option (Value × World) := blockK 0 s39K0
noncomputable def s39L0 (s : List Value) (d : List Deferred) (w : World) : Option (Value × World) := loopN Try.prog 39 none (nav [1, 1, 1, 0, 1, 0, 0] (bodyOf Try.f39)) s39K1 s d w
noncomputable def s39B0 : List Value → World → Option (Exit × List Value × World)
  | [x0, x1, x5, x6], w =>
    (Qlen Try.prog #[62] 3 #[x0] w).bind fun v851 =>
    (Qbin Try.prog Go.BinOp.lss 3 x6 v851).bind fun v852 =>
    condK v852 (
      (QindexAddr Try.prog 62 x0 x6 w).bind fun v853 =>
      (Qload Try.prog 73 v853 w).bind fun v854 =>
      (Xalloc Try.prog 73 w).bind fun r855 =>
      (Xstore Try.prog 73 r855.1 v854 r855.2).bind fun r856 =>
      (Qload Try.prog 73 r855.1 r856.2).bind fun v857 =>
      (Xcall Try.prog x1 #[v857] r856.2).bind fun r858 =>
      (Qun Go.UnOp.not r858.1).bind fun v859 =>
      condK v859 (
        (Qload Try.prog 73 r855.1 r858.2).bind fun v860 =>
        (QindexAddr Try.prog 62 x0 x5 r858.2).bind fun v861 =>
        (Xstore Try.prog 73 v861 v860 r858.2).bind fun r862 =>
        (Qbin Try.prog Go.BinOp.add 3 x5 (Go.Value.int Go.IntKind.i64 1)).bind fun v863 =>
        (Qbin Try.prog Go.BinOp.add 3 x6 (Go.Value.int Go.IntKind.i64 1)).bind fun v864 =>
        some (Exit.normal, [x0, x1, v863, v864], r862.2)
      ) (
        (Qbin Try.prog Go.BinOp.add 3 x6 (Go.Value.int Go.IntKind.i64 1)).bind fun v865 =>
        some (Exit.normal, [x0, x1, x5, v865], r858.2)
      )
    ) (
      some ((Exit.exit 0), [x0, x1, x5, x6], w)
    )
  | _, _ => none
noncomputable def s39R0 : Exit → List Value → World → Option (Value × World)
  | (Exit.exit 0), [x0, _, x5, _], w =>
    (Qslice Try.prog 62 x0 (some x5) none none w).bind fun v866 =>
    (Xbi Try.prog Go.Builtin.clear #[62] 0 #[v866] w).bind fun r867 =>
    (Qslice Try.prog 62 x0 none (some x5) none r867.2).bind fun v868 =>
    some (v868, r867.2)
  | _, _, _ => none
noncomputable def s39raw (x0 x1 : Value) (w : World) : Option (Value × World) :=
  (Xcall Try.prog (Value.func (Fn.func 54) #[] #[]) #[x0, x1] w).bind fun r848 =>
  (Qbin Try.prog Go.BinOp.eql 3 r848.1 (Go.Value.int Go.IntKind.i64 (-1))).bind fun v849 =>
  condK v849 (
    some (x0, r848.2)
  ) (
    (Qbin Try.prog Go.BinOp.add 3 r848.1 (Go.Value.int Go.IntKind.i64 1)).bind fun v850 =>
    s39L0 [x0, x1, undef, undef, (Go.Value.slice none 0 0), r848.1, v850, undef, x0, x1, r848.1, r848.1, v849, undef, r848.1, v850, undef, undef, undef, undef, undef, undef, undef, undef, undef, undef, undef, undef, undef, undef, undef, undef, undef, undef, undef, undef, undef, undef, undef, undef, undef, undef] [] r848.2
  )
noncomputable def s39 (x0 x1 : Value) (w : World) : Option (Value × World) :=
  (Xcall Try.prog (Value.func (Fn.func 54) #[] #[]) #[x0, x1] w).bind fun r848 =>
  (Qbin Try.prog Go.BinOp.eql 3 r848.1 (Go.Value.int Go.IntKind.i64 (-1))).bind fun v849 =>
  condK v849 (
    some (x0, r848.2)
  ) (
    (Qbin Try.prog Go.BinOp.add 3 r848.1 (Go.Value.int Go.IntKind.i64 1)).bind fun v850 =>
    loopR s39B0 s39R0 [x0, x1, r848.1, v850] r848.2
  )
theorem s39B0eq (x0 x1 x5 x6 : Value) (w : World) (g : Nat → Value) (d : List Deferred) : evK Try.prog 39 none (nav [1, 1, 1, 0, 1, 0, 0] (bodyOf Try.f39)) none _ (frm 42 (setL [0, 1, 5, 6] [x0, x1, x5, x6] g) d) w (projK [0, 1, 5, 6]) = s39B0 [x0, x1, x5, x6] w := by kernel_rfl
theorem s39R0x0eq (x0 x1 x5 x6 : Value) (g : Nat → Value) (w : World) : s39K1 (Exit.exit 0) (frm 42 (setL [0, 1, 5, 6] [x0, x1, x5, x6] g) []) w = s39R0 (Exit.exit 0) [x0, x1, x5, x6] w := by kernel_rfl
theorem s39R0of : ∀ (e : Exit) (xs : List Value) (w : World) (g : Nat → Value) (y : _), s39R0 e xs w = some y → s39K1 e (frm 42 (setL [0, 1, 5, 6] xs g) []) w = some y := by
  intro e xs w g y h
  unfold s39R0 at h
  split at h
  · exact (s39R0x0eq _ _ _ _ g _).trans h
  · cases h
set_option maxRecDepth 20000 in
theorem s39L0of {s0 s1 s2 s3 s4 s5 s6 s7 s8 s9 s10 s11 s12 s13 s14 s15 s16 s17 s18 s19 s20 s21 s22 s23 s24 s25 s26 s27 s28 s29 s30 s31 s32 s33 s34 s35 s36 s37 s38 s39 s40 s41 : Value} {w : World} {r : _} (h : loopR s39B0 s39R0 [s0, s1, s5, s6] w = some r) : s39L0 [s0, s1, s2, s3, s4, s5, s6, s7, s8, s9, s10, s11, s12, s13, s14, s15, s16, s17, s18, s19, s20, s21, s22, s23, s24, s25, s26, s27, s28, s29, s30, s31, s32, s33, s34, s35, s36, s37, s38, s39, s40, s41] [] w = some r :=
  loopN_of (B := s39B0) (R := s39R0) (n := 42) (live := [0, 1, 5, 6]) (fun xs w g y hl h => match xs, hl, h with | [x0, x1, x5, x6], _, h => (s39B0eq x0 x1 x5 x6 w g []).trans h) (by kernel_rfl) (s39R0of) (fun i => ([s0, s1, s2, s3, s4, s5, s6, s7, s8, s9, s10, s11, s12, s13, s14, s15, s16, s17, s18, s19, s20, s21, s22, s23, s24, s25, s26, s27, s28, s29, s30, s31, s32, s33, s34, s35, s36, s37, s38, s39, s40, s41] : List Value).getD i undef) (by kernel_rfl) rfl h
theorem s39eq (x0 x1 : Value) (w : World) : evK Try.prog 39 none (bodyOf Try.f39) none _ { tmps := (([x0, x1] : List Value) ++ List.replicate (42 - 2) undef).toArray, defers := [] } w (leaveK Try.prog Try.f39) = s39raw x0 x1 w := by kernel_rfl
theorem c39 {x0 x1 : Value} {w : World} {r : Value × World} (h : s39 x0 x1 w = some r) : C Try.prog 39 #[x0, x1] w = some r :=
  C_ev follows_all drawLaw (by kernel_rfl) Try.func39 (by rfl) ((s39eq x0 x1 w).trans (show s39raw x0 x1 w = some r from (Ev.bind_mono fun (r848 : Value × World) => (Ev.bind_mono fun (v849 : Value) => (condK_mono id (Ev.bind_mono fun (v850 : Value) => (s39L0of))))) h))
theorem e39 {x0 x1 : Value} {w : World} {Q : Value × World → Prop} (h : Brings (s39 x0 x1 w) Q) : Brings (Xcall Try.prog (Value.func (Fn.func 39) #[] #[]) #[x0, x1] w) Q :=
  h.call (Xcall_fn Try.func39 (by decide +kernel) (by rfl) _ _ _ w) fun _ h => c39 h

/-! (*lychgate/table.Table).Drop$1 -/
noncomputable def s40 (x0 x1 : Value) (w : World) : Option (Value × World) :=
  (Xbox Try.prog 73 x0 w).bind fun r869 =>
  (QfieldAddr Try.prog 73 r869.1 0).bind fun v870 =>
  (Qload Try.prog 37 v870 r869.2).bind fun v871 =>
  (Qload Try.prog 37 x1 r869.2).bind fun v872 =>
  (Qbin Try.prog Go.BinOp.eql 37 v871 v872).bind fun v873 =>
  some (v873, r869.2)
theorem s40eq (x0 x1 : Value) (w : World) : evK Try.prog 40 none (bodyOf Try.f40) none _ { tmps := (([x0, x1] : List Value) ++ List.replicate (8 - 2) undef).toArray, defers := [] } w (leaveK Try.prog Try.f40) = s40 x0 x1 w := by kernel_rfl
theorem c40 {x0 x1 : Value} {w : World} {r : Value × World} (h : s40 x0 x1 w = some r) : C Try.prog 40 #[x0, x1] w = some r :=
  C_ev follows_all drawLaw (by kernel_rfl) Try.func40 (by rfl) ((s40eq x0 x1 w).trans h)
theorem e40 {x0 x1 : Value} {w : World} {Q : Value × World → Prop} (h : Brings (s40 x0 x1 w) Q) : Brings (Xcall Try.prog (Value.func (Fn.func 40) #[] #[x1]) #[x0] w) Q :=
  h.call (Xcall_fn Try.func40 (by decide +kernel) (by rfl) _ _ _ w) fun _ h => c40 h

/-! slices.Clone[[][]lychgate/table.row[lychgate/api.Tuple, int],[]lychgate/table.row[lychgate/api.Tuple, int]] -/
noncomputable def s41 (x0 : Value) (w : World) : Option (Value × World) :=
  (Qbin Try.prog Go.BinOp.eql 65 x0 (Go.Value.slice none 0 0)).bind fun v874 =>
  condK v874 (
    some ((Go.Value.slice none 0 0), w)
  ) (
    (XbuildSlice Try.prog 65 0 #[] w).bind fun r875 =>
    (Xbi Try.prog Go.Builtin.append #[65, 65] 65 #[r875.1, x0] r875.2).bind fun r876 =>
    some (r876.1, r876.2)
  )
theorem s41eq (x0 : Value) (w : World) : evK Try.prog 41 none (bodyOf Try.f41) none _ { tmps := (([x0] : List Value) ++ List.replicate (8 - 1) undef).toArray, defers := [] } w (leaveK Try.prog Try.f41) = s41 x0 w := by kernel_rfl
theorem c41 {x0 : Value} {w : World} {r : Value × World} (h : s41 x0 w = some r) : C Try.prog 41 #[x0] w = some r :=
  C_ev follows_all drawLaw (by kernel_rfl) Try.func41 (by rfl) ((s41eq x0 w).trans h)
theorem e41 {x0 : Value} {w : World} {Q : Value × World → Prop} (h : Brings (s41 x0 w) Q) : Brings (Xcall Try.prog (Value.func (Fn.func 41) #[] #[]) #[x0] w) Q :=
  h.call (Xcall_fn Try.func41 (by decide +kernel) (by rfl) _ _ _ w) fun _ h => c41 h

/-! slices.Clone[[]lychgate/table.row[lychgate/api.Tuple, int],lychgate/table.row[lychgate/api.Tuple, int]] -/
noncomputable def s42 (x0 : Value) (w : World) : Option (Value × World) :=
  (Qbin Try.prog Go.BinOp.eql 62 x0 (Go.Value.slice none 0 0)).bind fun v877 =>
  condK v877 (
    some ((Go.Value.slice none 0 0), w)
  ) (
    (XbuildSlice Try.prog 62 0 #[] w).bind fun r878 =>
    (Xbi Try.prog Go.Builtin.append #[62, 62] 62 #[r878.1, x0] r878.2).bind fun r879 =>
    some (r879.1, r879.2)
  )
theorem s42eq (x0 : Value) (w : World) : evK Try.prog 42 none (bodyOf Try.f42) none _ { tmps := (([x0] : List Value) ++ List.replicate (8 - 1) undef).toArray, defers := [] } w (leaveK Try.prog Try.f42) = s42 x0 w := by kernel_rfl
theorem c42 {x0 : Value} {w : World} {r : Value × World} (h : s42 x0 w = some r) : C Try.prog 42 #[x0] w = some r :=
  C_ev follows_all drawLaw (by kernel_rfl) Try.func42 (by rfl) ((s42eq x0 w).trans h)
theorem e42 {x0 : Value} {w : World} {Q : Value × World → Prop} (h : Brings (s42 x0 w) Q) : Brings (Xcall Try.prog (Value.func (Fn.func 42) #[] #[]) #[x0] w) Q :=
  h.call (Xcall_fn Try.func42 (by decide +kernel) (by rfl) _ _ _ w) fun _ h => c42 h

/-! (*lychgate/lychgateref06.Table).Put -/
noncomputable def s43 (x0 x1 x2 x3 : Value) (w : World) : Option (Value × World) :=
  (Xbox Try.prog 37 x1 w).bind fun r880 =>
  (Qbin Try.prog Go.BinOp.eql 26 x0 (Go.Value.pointer none)).bind fun v881 =>
  condK v881 (
    some ((Go.Value.int Go.IntKind.i64 1), r880.2)
  ) (
    (Qbin Try.prog Go.BinOp.lss 3 x3 (Go.Value.int Go.IntKind.i64 0)).bind fun v882 =>
    (guardQ v882 false (Qbin Try.prog Go.BinOp.gtr 3 (gv (isB v882 false) x3) (Go.Value.int Go.IntKind.i64 1099511627776))).bind fun v883 =>
    (Qpick v882 (Go.Value.bool true) v883).bind fun v884 =>
    condK v884 (
      some ((Go.Value.int Go.IntKind.i64 2), r880.2)
    ) (
      (Qload Try.prog 37 r880.1 r880.2).bind fun v885 =>
      (Xcall Try.prog (Value.func (Fn.func 56) #[] #[]) #[x0, v885] r880.2).bind fun r886 =>
      (Qbin Try.prog Go.BinOp.geq 3 r886.1 (Go.Value.int Go.IntKind.i64 0)).bind fun v887 =>
      condK v887 (
        some ((Go.Value.int Go.IntKind.i64 10), r886.2)
      ) (
        (Qnil x0).bind fun v888 =>
        (QfieldAddr Try.prog 87 v888 0).bind fun v889 =>
        (Qload Try.prog 85 v889 r886.2.drew).bind fun v890 =>
        (Qlen Try.prog #[85] 3 #[v890] r886.2.drew).bind fun v891 =>
        (Qnil x0).bind fun v892 =>
        (QfieldAddr Try.prog 87 v892 1).bind fun v893 =>
        (Qload Try.prog 3 v893 r886.2.drew).bind fun v894 =>
        (Qbin Try.prog Go.BinOp.geq 3 v891 v894).bind fun v895 =>
        chkK True (
          condK v895 (
            some ((Go.Value.int Go.IntKind.i64 9), r886.2.drew)
          ) (
            (Qnil x0).bind fun v896 =>
            (QfieldAddr Try.prog 87 v896 2).bind fun v897 =>
            (Qload Try.prog 3 v897 r886.2.drew).bind fun v898 =>
            (Qbin Try.prog Go.BinOp.add 3 v898 (Go.Value.int Go.IntKind.i64 1)).bind fun v899 =>
            (Qnil x0).bind fun v900 =>
            (QfieldAddr Try.prog 87 v900 2).bind fun v901 =>
            (Xstore Try.prog 3 v901 v899 r886.2.drew).bind fun r902 =>
            (Qnil x0).bind fun v903 =>
            (QfieldAddr Try.prog 87 v903 0).bind fun v904 =>
            (Qload Try.prog 85 v904 r902.2.drew).bind fun v905 =>
            (Qload Try.prog 37 r880.1 r902.2.drew).bind fun v906 =>
            (Xcall Try.prog (Value.func (Fn.func 18) #[] #[]) #[v906] r902.2.drew).bind fun r907 =>
            (Qnil x0).bind fun v908 =>
            (QfieldAddr Try.prog 87 v908 2).bind fun v909 =>
            (Qload Try.prog 3 v909 r907.2).bind fun v910 =>
            (Qbuild Try.prog 99 #[(0, r907.1), (1, x2), (2, x3), (3, v910)] r907.2).bind fun v911 =>
            (XbuildSlice Try.prog 85 1 #[(0, v911)] r907.2).bind fun r912 =>
            (Xbi Try.prog Go.Builtin.append #[85, 85] 85 #[v905, r912.1] r912.2).bind fun r913 =>
            (Qnil x0).bind fun v914 =>
            (QfieldAddr Try.prog 87 v914 0).bind fun v915 =>
            (Xstore Try.prog 85 v915 r913.1 r913.2).bind fun r916 =>
            chkK ((Qload Try.prog 85 v904 r902.2.drew = some v905 ∧ Qload Try.prog 85 v904 r907.2 = some v905) ∧ ((Qload Try.prog 85 v904 r907.2 = some v905 ∧ Qload Try.prog 85 v904 r912.2 = some v905) ∧ ((Qload Try.prog 3 v909 r902.2.drew = some v910 ∧ Qload Try.prog 3 v909 r907.2 = some v910) ∧ True))) (
              some ((Go.Value.int Go.IntKind.i64 0), r916.2)
            )
          )
        )
      )
    )
  )
theorem s43eq (x0 x1 x2 x3 : Value) (w : World) : evK Try.prog 43 none (bodyOf Try.f43) none _ { tmps := (([x0, x1, x2, x3] : List Value) ++ List.replicate (60 - 4) undef).toArray, defers := [] } w (leaveK Try.prog Try.f43) = s43 x0 x1 x2 x3 w := by kernel_rfl
theorem c43 {x0 x1 x2 x3 : Value} {w : World} {r : Value × World} (h : s43 x0 x1 x2 x3 w = some r) : C Try.prog 43 #[x0, x1, x2, x3] w = some r :=
  C_ev follows_all drawLaw (by kernel_rfl) Try.func43 (by rfl) ((s43eq x0 x1 x2 x3 w).trans h)
theorem e43 {x0 x1 x2 x3 : Value} {w : World} {Q : Value × World → Prop} (h : Brings (s43 x0 x1 x2 x3 w) Q) : Brings (Xcall Try.prog (Value.func (Fn.func 43) #[] #[]) #[x0, x1, x2, x3] w) Q :=
  h.call (Xcall_fn Try.func43 (by decide +kernel) (by rfl) _ _ _ w) fun _ h => c43 h

/-! (*lychgate/lychgateref06.Table).Move -/
noncomputable def s44 (x0 x1 x2 : Value) (w : World) : Option (Value × World) :=
  (Xbox Try.prog 37 x1 w).bind fun r917 =>
  (Qbin Try.prog Go.BinOp.eql 26 x0 (Go.Value.pointer none)).bind fun v918 =>
  condK v918 (
    some ((Go.Value.int Go.IntKind.i64 1), r917.2)
  ) (
    (Qbin Try.prog Go.BinOp.lss 3 x2 (Go.Value.int Go.IntKind.i64 0)).bind fun v919 =>
    (guardQ v919 false (Qbin Try.prog Go.BinOp.gtr 3 (gv (isB v919 false) x2) (Go.Value.int Go.IntKind.i64 1099511627776))).bind fun v920 =>
    (Qpick v919 (Go.Value.bool true) v920).bind fun v921 =>
    condK v921 (
      some ((Go.Value.int Go.IntKind.i64 2), r917.2)
    ) (
      (Qload Try.prog 37 r917.1 r917.2).bind fun v922 =>
      (Xcall Try.prog (Value.func (Fn.func 56) #[] #[]) #[x0, v922] r917.2).bind fun r923 =>
      (Qbin Try.prog Go.BinOp.lss 3 r923.1 (Go.Value.int Go.IntKind.i64 0)).bind fun v924 =>
      condK v924 (
        some ((Go.Value.int Go.IntKind.i64 11), r923.2)
      ) (
        (Qnil x0).bind fun v925 =>
        (QfieldAddr Try.prog 87 v925 2).bind fun v926 =>
        (Qload Try.prog 3 v926 r923.2).bind fun v927 =>
        (Qbin Try.prog Go.BinOp.add 3 v927 (Go.Value.int Go.IntKind.i64 1)).bind fun v928 =>
        (Qnil x0).bind fun v929 =>
        (QfieldAddr Try.prog 87 v929 2).bind fun v930 =>
        (Xstore Try.prog 3 v930 v928 r923.2).bind fun r931 =>
        (Qload Try.prog 37 r917.1 r931.2).bind fun v932 =>
        (Xcall Try.prog (Value.func (Fn.func 56) #[] #[]) #[x0, v932] r931.2).bind fun r933 =>
        (Qnil x0).bind fun v934 =>
        (QfieldAddr Try.prog 87 v934 0).bind fun v935 =>
        (Qload Try.prog 85 v935 r933.2).bind fun v936 =>
        (QindexAddr Try.prog 85 v936 r933.1 r933.2).bind fun v937 =>
        (QfieldAddr Try.prog 99 v937 2).bind fun v938 =>
        (Xstore Try.prog 3 v938 x2 r933.2).bind fun r939 =>
        (Qnil x0).bind fun v940 =>
        (QfieldAddr Try.prog 87 v940 0).bind fun v941 =>
        (Qload Try.prog 85 v941 r939.2.drew).bind fun v942 =>
        (Qnil x0).bind fun v943 =>
        (QfieldAddr Try.prog 87 v943 2).bind fun v944 =>
        (Qload Try.prog 3 v944 r939.2.drew).bind fun v945 =>
        (QindexAddr Try.prog 85 v942 r933.1 r939.2.drew).bind fun v946 =>
        (QfieldAddr Try.prog 99 v946 3).bind fun v947 =>
        (Xstore Try.prog 3 v947 v945 r939.2.drew).bind fun r948 =>
        chkK True (
          some ((Go.Value.int Go.IntKind.i64 0), r948.2)
        )
      )
    )
  )
theorem s44eq (x0 x1 x2 : Value) (w : World) : evK Try.prog 44 none (bodyOf Try.f44) none _ { tmps := (([x0, x1, x2] : List Value) ++ List.replicate (52 - 3) undef).toArray, defers := [] } w (leaveK Try.prog Try.f44) = s44 x0 x1 x2 w := by kernel_rfl
theorem c44 {x0 x1 x2 : Value} {w : World} {r : Value × World} (h : s44 x0 x1 x2 w = some r) : C Try.prog 44 #[x0, x1, x2] w = some r :=
  C_ev follows_all drawLaw (by kernel_rfl) Try.func44 (by rfl) ((s44eq x0 x1 x2 w).trans h)
theorem e44 {x0 x1 x2 : Value} {w : World} {Q : Value × World → Prop} (h : Brings (s44 x0 x1 x2 w) Q) : Brings (Xcall Try.prog (Value.func (Fn.func 44) #[] #[]) #[x0, x1, x2] w) Q :=
  h.call (Xcall_fn Try.func44 (by decide +kernel) (by rfl) _ _ _ w) fun _ h => c44 h

/-! (*lychgate/lychgateref06.Table).Drop -/
noncomputable def s45 (x0 x1 : Value) (w : World) : Option (Value × World) :=
  (Xbox Try.prog 37 x1 w).bind fun r949 =>
  (Qbin Try.prog Go.BinOp.eql 26 x0 (Go.Value.pointer none)).bind fun v950 =>
  condK v950 (
    some ((Go.Value.int Go.IntKind.i64 1), r949.2)
  ) (
    (Qload Try.prog 37 r949.1 r949.2).bind fun v951 =>
    (Xcall Try.prog (Value.func (Fn.func 56) #[] #[]) #[x0, v951] r949.2).bind fun r952 =>
    (Qbin Try.prog Go.BinOp.lss 3 r952.1 (Go.Value.int Go.IntKind.i64 0)).bind fun v953 =>
    condK v953 (
      some ((Go.Value.int Go.IntKind.i64 11), r952.2)
    ) (
      (Qnil x0).bind fun v954 =>
      (QfieldAddr Try.prog 87 v954 0).bind fun v955 =>
      (Qload Try.prog 85 v955 r952.2.drew).bind fun v956 =>
      (Qslice Try.prog 85 v956 none (some r952.1) none r952.2.drew).bind fun v957 =>
      (Xbi Try.prog Go.Builtin.append #[85, 85] 85 #[(Go.Value.slice none 0 0), v957] r952.2.drew).bind fun r958 =>
      (Qnil x0).bind fun v959 =>
      (QfieldAddr Try.prog 87 v959 0).bind fun v960 =>
      (Qload Try.prog 85 v960 r958.2).bind fun v961 =>
      (Qbin Try.prog Go.BinOp.add 3 r952.1 (Go.Value.int Go.IntKind.i64 1)).bind fun v962 =>
      (Qslice Try.prog 85 v961 (some v962) none none r958.2).bind fun v963 =>
      (Xbi Try.prog Go.Builtin.append #[85, 85] 85 #[r958.1, v963] r958.2).bind fun r964 =>
      chkK ((Qload Try.prog 85 v960 r952.2.drew = some v961 ∧ Qload Try.prog 85 v960 r958.2 = some v961) ∧ ((Qslice Try.prog 85 v961 (some v962) none none r952.2.drew = some v963 ∧ Qslice Try.prog 85 v961 (some v962) none none r958.2 = some v963) ∧ True)) (
        (Qnil x0).bind fun v965 =>
        (QfieldAddr Try.prog 87 v965 0).bind fun v966 =>
        (Xstore Try.prog 85 v966 r964.1 r964.2).bind fun r967 =>
        some ((Go.Value.int Go.IntKind.i64 0), r967.2)
      )
    )
  )
theorem s45eq (x0 x1 : Value) (w : World) : evK Try.prog 45 none (bodyOf Try.f45) none _ { tmps := (([x0, x1] : List Value) ++ List.replicate (34 - 2) undef).toArray, defers := [] } w (leaveK Try.prog Try.f45) = s45 x0 x1 w := by kernel_rfl
theorem c45 {x0 x1 : Value} {w : World} {r : Value × World} (h : s45 x0 x1 w = some r) : C Try.prog 45 #[x0, x1] w = some r :=
  C_ev follows_all drawLaw (by kernel_rfl) Try.func45 (by rfl) ((s45eq x0 x1 w).trans h)
theorem e45 {x0 x1 : Value} {w : World} {Q : Value × World → Prop} (h : Brings (s45 x0 x1 w) Q) : Brings (Xcall Try.prog (Value.func (Fn.func 45) #[] #[]) #[x0, x1] w) Q :=
  h.call (Xcall_fn Try.func45 (by decide +kernel) (by rfl) _ _ _ w) fun _ h => c45 h

/-! slices.MinFunc[[]lychgate/table.row[lychgate/api.Tuple, int],lychgate/table.row[lychgate/api.Tuple, int]] -/
noncomputable def s46K0 : Exit → Act → World → Option (Value × World) := seqK (fun a w => evK Try.prog 46 none (nav [1, 1] (bodyOf Try.f46)) none _ a w (leaveK Try.prog Try.f46)) (leaveK Try.prog Try.f46)
noncomputable def s46J0 (s : List Value) (d : List Deferred) (w : World) : Option (Value × World) := s46K0 .normal ⟨s.toArray, d⟩ w
noncomputable def s46K1 : Exit → Act → World → Option (Value × World) := seqK (fun a w => evK Try.prog 46 none (nav [1, 1, 1, 1] (bodyOf Try.f46)) none _ a w (leaveK Try.prog Try.f46)) (leaveK Try.prog Try.f46)
noncomputable def s46K2 : Exit → Act → World → Option (Value × World) := blockK 0 s46K1
noncomputable def s46L1 (s : List Value) (d : List Deferred) (w : World) : Option (Value × World) := loopN Try.prog 46 none (nav [1, 1, 1, 0, 1, 0, 0] (bodyOf Try.f46)) s46K2 s d w
noncomputable def s46B1 : List Value → World → Option (Exit × List Value × World)
  | [x0, x1, x4, x5, x6], w =>
    (Qlen Try.prog #[62] 3 #[x0] w).bind fun v975 =>
    (Qbin Try.prog Go.BinOp.lss 3 x6 v975).bind fun v976 =>
    condK v976 (
      (QindexAddr Try.prog 62 x0 x6 w.drew).bind fun v977 =>
      (Qload Try.prog 73 v977 w.drew).bind fun v978 =>
      (Qload Try.prog 73 x5 w.drew).bind fun v979 =>
      (Xcall Try.prog x1 #[v978, v979] w.drew).bind fun r980 =>
      (Qbin Try.prog Go.BinOp.lss 3 r980.1 (Go.Value.int Go.IntKind.i64 0)).bind fun v981 =>
      chkK True (
        condK v981 (
          (QindexAddr Try.prog 62 x0 x6 r980.2).bind fun v982 =>
          (Qload Try.prog 73 v982 r980.2).bind fun v983 =>
          (Xstore Try.prog 73 x5 v983 r980.2).bind fun r984 =>
          (Qbin Try.prog Go.BinOp.add 3 x6 (Go.Value.int Go.IntKind.i64 1)).bind fun v985 =>
          some (Exit.normal, [x0, x1, x4, x5, v985], r984.2)
        ) (
          (Qbin Try.prog Go.BinOp.add 3 x6 (Go.Value.int Go.IntKind.i64 1)).bind fun v986 =>
          some (Exit.normal, [x0, x1, x4, x5, v986], r980.2)
        )
      )
    ) (
      some ((Exit.exit 0), [x0, x1, x4, x5, x6], w)
    )
  | _, _ => none
noncomputable def s46R1 : Exit → List Value → World → Option (Value × World)
  | (Exit.exit 0), [_, _, x4, x5, _], w =>
    (Qload Try.prog 73 x5 w).bind fun v987 =>
    (Xstore Try.prog 73 x4 v987 w).bind fun r988 =>
    ((((Qload Try.prog 73 x4 r988.2).bind fun v => ((some [])).map fun vs => v :: vs)).map oneOf).map fun v => (v, r988.2)
  | _, _, _ => none
noncomputable def s46M0raw (s0 s1 s2 s3 s4 _s5 _s6 s7 s8 s9 s10 _s11 _s12 _s13 s14 s15 s16 s17 s18 s19 s20 s21 s22 s23 s24 s25 s26 s27 s28 s29 s30 s31 s32 : Value) (w : World) : Option (Value × World) :=
  (QindexAddr Try.prog 62 s0 (Go.Value.int Go.IntKind.i64 0) w).bind fun v971 =>
  (Qload Try.prog 73 v971 w).bind fun v972 =>
  (Xalloc Try.prog 73 w).bind fun r973 =>
  (Xstore Try.prog 73 r973.1 v972 r973.2).bind fun r974 =>
  s46L1 [s0, s1, s2, s3, s4, r973.1, (Go.Value.int Go.IntKind.i64 1), s7, s8, s9, s10, s0, v971, v972, s14, s15, s16, s17, s18, s19, s20, s21, s22, s23, s24, s25, s26, s27, s28, s29, s30, s31, s32] [] r974.2
noncomputable def s46M0 (s0 s1 s4 : Value) (w : World) : Option (Value × World) :=
  (QindexAddr Try.prog 62 s0 (Go.Value.int Go.IntKind.i64 0) w).bind fun v971 =>
  (Qload Try.prog 73 v971 w).bind fun v972 =>
  (Xalloc Try.prog 73 w).bind fun r973 =>
  (Xstore Try.prog 73 r973.1 v972 r973.2).bind fun r974 =>
  loopR s46B1 s46R1 [s0, s1, s4, r973.1, (Go.Value.int Go.IntKind.i64 1)] r974.2
noncomputable def s46raw (x0 x1 : Value) (w : World) : Option (Value × World) :=
  (Xalloc Try.prog 73 w).bind fun r968 =>
  (Qlen Try.prog #[62] 3 #[x0] r968.2).bind fun v969 =>
  (Qbin Try.prog Go.BinOp.lss 3 v969 (Go.Value.int Go.IntKind.i64 1)).bind fun v970 =>
  condK v970 (
    evK Try.prog 46 none (nav [1, 0, 1, 0] (bodyOf Try.f46)) none _ ⟨[x0, x1, undef, undef, r968.1, undef, undef, x0, v969, v970, undef, undef, undef, undef, undef, undef, undef, undef, undef, undef, undef, undef, undef, undef, undef, undef, undef, undef, undef, undef, undef, undef, undef].toArray, []⟩ r968.2 s46K0
  ) (
    s46J0 [x0, x1, undef, undef, r968.1, undef, undef, x0, v969, v970, undef, undef, undef, undef, undef, undef, undef, undef, undef, undef, undef, undef, undef, undef, undef, undef, undef, undef, undef, undef, undef, undef, undef] [] r968.2
  )
noncomputable def s46 (x0 x1 : Value) (w : World) : Option (Value × World) :=
  (Xalloc Try.prog 73 w).bind fun r968 =>
  (Qlen Try.prog #[62] 3 #[x0] r968.2).bind fun v969 =>
  (Qbin Try.prog Go.BinOp.lss 3 v969 (Go.Value.int Go.IntKind.i64 1)).bind fun v970 =>
  condK v970 (
    none
  ) (
    s46M0 x0 x1 r968.1 r968.2
  )
theorem s46B1eq (x0 x1 x4 x5 x6 : Value) (w : World) (g : Nat → Value) (d : List Deferred) : evK Try.prog 46 none (nav [1, 1, 1, 0, 1, 0, 0] (bodyOf Try.f46)) none _ (frm 33 (setL [0, 1, 4, 5, 6] [x0, x1, x4, x5, x6] g) d) w (projK [0, 1, 4, 5, 6]) = s46B1 [x0, x1, x4, x5, x6] w := by kernel_rfl
theorem s46R1x0eq (x0 x1 x4 x5 x6 : Value) (g : Nat → Value) (w : World) : s46K2 (Exit.exit 0) (frm 33 (setL [0, 1, 4, 5, 6] [x0, x1, x4, x5, x6] g) []) w = s46R1 (Exit.exit 0) [x0, x1, x4, x5, x6] w := by kernel_rfl
theorem s46R1of : ∀ (e : Exit) (xs : List Value) (w : World) (g : Nat → Value) (y : _), s46R1 e xs w = some y → s46K2 e (frm 33 (setL [0, 1, 4, 5, 6] xs g) []) w = some y := by
  intro e xs w g y h
  unfold s46R1 at h
  split at h
  · exact (s46R1x0eq _ _ _ _ _ g _).trans h
  · cases h
set_option maxRecDepth 20000 in
theorem s46L1of {s0 s1 s2 s3 s4 s5 s6 s7 s8 s9 s10 s11 s12 s13 s14 s15 s16 s17 s18 s19 s20 s21 s22 s23 s24 s25 s26 s27 s28 s29 s30 s31 s32 : Value} {w : World} {r : _} (h : loopR s46B1 s46R1 [s0, s1, s4, s5, s6] w = some r) : s46L1 [s0, s1, s2, s3, s4, s5, s6, s7, s8, s9, s10, s11, s12, s13, s14, s15, s16, s17, s18, s19, s20, s21, s22, s23, s24, s25, s26, s27, s28, s29, s30, s31, s32] [] w = some r :=
  loopN_of (B := s46B1) (R := s46R1) (n := 33) (live := [0, 1, 4, 5, 6]) (fun xs w g y hl h => match xs, hl, h with | [x0, x1, x4, x5, x6], _, h => (s46B1eq x0 x1 x4 x5 x6 w g []).trans h) (by kernel_rfl) (s46R1of) (fun i => ([s0, s1, s2, s3, s4, s5, s6, s7, s8, s9, s10, s11, s12, s13, s14, s15, s16, s17, s18, s19, s20, s21, s22, s23, s24, s25, s26, s27, s28, s29, s30, s31, s32] : List Value).getD i undef) (by kernel_rfl) rfl h
theorem s46J0eq (s0 s1 s2 s3 s4 s5 s6 s7 s8 s9 s10 s11 s12 s13 s14 s15 s16 s17 s18 s19 s20 s21 s22 s23 s24 s25 s26 s27 s28 s29 s30 s31 s32 : Value) (w : World) : s46J0 [s0, s1, s2, s3, s4, s5, s6, s7, s8, s9, s10, s11, s12, s13, s14, s15, s16, s17, s18, s19, s20, s21, s22, s23, s24, s25, s26, s27, s28, s29, s30, s31, s32] [] w = s46M0raw s0 s1 s2 s3 s4 s5 s6 s7 s8 s9 s10 s11 s12 s13 s14 s15 s16 s17 s18 s19 s20 s21 s22 s23 s24 s25 s26 s27 s28 s29 s30 s31 s32 w := (show s46J0 [s0, s1, s2, s3, s4, s5, s6, s7, s8, s9, s10, s11, s12, s13, s14, s15, s16, s17, s18, s19, s20, s21, s22, s23, s24, s25, s26, s27, s28, s29, s30, s31, s32] [] w = evK Try.prog 46 none (nav [1, 1] (bodyOf Try.f46)) none _ ⟨[s0, s1, s2, s3, s4, s5, s6, s7, s8, s9, s10, s11, s12, s13, s14, s15, s16, s17, s18, s19, s20, s21, s22, s23, s24, s25, s26, s27, s28, s29, s30, s31, s32].toArray, []⟩ w (leaveK Try.prog Try.f46) from by kernel_rfl).trans (by kernel_rfl)
theorem s46J0of {s0 s1 s2 s3 s4 s5 s6 s7 s8 s9 s10 s11 s12 s13 s14 s15 s16 s17 s18 s19 s20 s21 s22 s23 s24 s25 s26 s27 s28 s29 s30 s31 s32 : Value} {w : World} {r : _} (h : s46M0 s0 s1 s4 w = some r) : s46J0 [s0, s1, s2, s3, s4, s5, s6, s7, s8, s9, s10, s11, s12, s13, s14, s15, s16, s17, s18, s19, s20, s21, s22, s23, s24, s25, s26, s27, s28, s29, s30, s31, s32] [] w = some r :=
  ((s46J0eq s0 s1 s2 s3 s4 s5 s6 s7 s8 s9 s10 s11 s12 s13 s14 s15 s16 s17 s18 s19 s20 s21 s22 s23 s24 s25 s26 s27 s28 s29 s30 s31 s32 w).trans ((Ev.bind_mono fun (v971 : Value) => (Ev.bind_mono fun (v972 : Value) => (Ev.bind_mono fun (r973 : Value × World) => (Ev.bind_mono fun (r974 : Value × World) => (s46L1of))))) h))
theorem s46eq (x0 x1 : Value) (w : World) : evK Try.prog 46 none (bodyOf Try.f46) none _ { tmps := (([x0, x1] : List Value) ++ List.replicate (33 - 2) undef).toArray, defers := [] } w (leaveK Try.prog Try.f46) = s46raw x0 x1 w := by kernel_rfl
theorem c46 {x0 x1 : Value} {w : World} {r : Value × World} (h : s46 x0 x1 w = some r) : C Try.prog 46 #[x0, x1] w = some r :=
  C_ev follows_all drawLaw (by kernel_rfl) Try.func46 (by rfl) ((s46eq x0 x1 w).trans (show s46raw x0 x1 w = some r from (Ev.bind_mono fun (r968 : Value × World) => (Ev.bind_mono fun (v969 : Value) => (Ev.bind_mono fun (v970 : Value) => (condK_mono (fun h => by cases h) (s46J0of))))) h))
theorem e46 {x0 x1 : Value} {w : World} {Q : Value × World → Prop} (h : Brings (s46 x0 x1 w) Q) : Brings (Xcall Try.prog (Value.func (Fn.func 46) #[] #[]) #[x0, x1] w) Q :=
  h.call (Xcall_fn Try.func46 (by decide +kernel) (by rfl) _ _ _ w) fun _ h => c46 h

/-! slices.Collect[lychgate/table.row[lychgate/api.Tuple, int]] -/
noncomputable def s47 (x0 : Value) (w : World) : Option (Value × World) :=
  (Xcall Try.prog (Value.func (Fn.func 58) #[] #[]) #[(Go.Value.slice none 0 0), x0] w).bind fun r989 =>
  some (r989.1, r989.2)
theorem s47eq (x0 : Value) (w : World) : evK Try.prog 47 none (bodyOf Try.f47) none _ { tmps := (([x0] : List Value) ++ List.replicate (5 - 1) undef).toArray, defers := [] } w (leaveK Try.prog Try.f47) = s47 x0 w := by kernel_rfl
theorem c47 {x0 : Value} {w : World} {r : Value × World} (h : s47 x0 w = some r) : C Try.prog 47 #[x0] w = some r :=
  C_ev follows_all drawLaw (by kernel_rfl) Try.func47 (by rfl) ((s47eq x0 w).trans h)
theorem e47 {x0 : Value} {w : World} {Q : Value × World → Prop} (h : Brings (s47 x0 w) Q) : Brings (Xcall Try.prog (Value.func (Fn.func 47) #[] #[]) #[x0] w) Q :=
  h.call (Xcall_fn Try.func47 (by decide +kernel) (by rfl) _ _ _ w) fun _ h => c47 h

/-! lychgate/tuple.Hash -/
noncomputable def s48 (x0 : Value) (w : World) : Option (Value × World) :=
  (Xbox Try.prog 37 x0 w).bind fun r990 =>
  (Qload Try.prog 37 r990.1 r990.2).bind fun v991 =>
  (Xcall Try.prog (Value.func (Fn.func 32) #[] #[]) #[v991] r990.2).bind fun r992 =>
  (Xalloc Try.prog 37 r992.2).bind fun r993 =>
  (Xstore Try.prog 37 r993.1 r992.1 r993.2).bind fun r994 =>
  (Xalloc Try.prog 35 r994.2).bind fun r995 =>
  (Xstore Try.prog 35 r995.1 (Go.Value.int Go.IntKind.u32 2166136261) r995.2).bind fun r996 =>
  (some (Value.func (Go.Fn.func 59) #[] #[r995.1])).bind fun v997 =>
  (QfieldAddr Try.prog 37 r993.1 0).bind fun v998 =>
  (Qload Try.prog 5 v998 r996.2).bind fun v999 =>
  (Qconv Try.prog 5 102 v999).bind fun v1000 =>
  (Xcall Try.prog v997 #[v1000, (Go.Value.int Go.IntKind.i64 1)] r996.2).bind fun r1001 =>
  (QfieldAddr Try.prog 37 r993.1 1).bind fun v1002 =>
  (Qload Try.prog 35 v1002 r1001.2).bind fun v1003 =>
  (Qconv Try.prog 35 102 v1003).bind fun v1004 =>
  (Qbin Try.prog Go.BinOp.shl 102 v1004 (Go.Value.int Go.IntKind.u64 32)).bind fun v1005 =>
  (QfieldAddr Try.prog 37 r993.1 2).bind fun v1006 =>
  (Qload Try.prog 35 v1006 r1001.2).bind fun v1007 =>
  (Qconv Try.prog 35 102 v1007).bind fun v1008 =>
  (Qbin Try.prog Go.BinOp.or 102 v1005 v1008).bind fun v1009 =>
  (Xcall Try.prog v997 #[v1009, (Go.Value.int Go.IntKind.i64 8)] r1001.2).bind fun r1010 =>
  (QfieldAddr Try.prog 37 r993.1 3).bind fun v1011 =>
  (Qload Try.prog 23 v1011 r1010.2).bind fun v1012 =>
  (Qconv Try.prog 23 102 v1012).bind fun v1013 =>
  (Qbin Try.prog Go.BinOp.shl 102 v1013 (Go.Value.int Go.IntKind.u64 16)).bind fun v1014 =>
  (QfieldAddr Try.prog 37 r993.1 4).bind fun v1015 =>
  (Qload Try.prog 23 v1015 r1010.2).bind fun v1016 =>
  (Qconv Try.prog 23 102 v1016).bind fun v1017 =>
  (Qbin Try.prog Go.BinOp.or 102 v1014 v1017).bind fun v1018 =>
  (Xcall Try.prog v997 #[v1018, (Go.Value.int Go.IntKind.i64 4)] r1010.2).bind fun r1019 =>
  (Qload Try.prog 35 r995.1 r1019.2).bind fun v1020 =>
  some (v1020, r1019.2)
theorem s48eq (x0 : Value) (w : World) : evK Try.prog 48 none (bodyOf Try.f48) none _ { tmps := (([x0] : List Value) ++ List.replicate (35 - 1) undef).toArray, defers := [] } w (leaveK Try.prog Try.f48) = s48 x0 w := by kernel_rfl
theorem c48 {x0 : Value} {w : World} {r : Value × World} (h : s48 x0 w = some r) : C Try.prog 48 #[x0] w = some r :=
  C_ev follows_all drawLaw (by kernel_rfl) Try.func48 (by rfl) ((s48eq x0 w).trans h)
theorem e48 {x0 : Value} {w : World} {Q : Value × World → Prop} (h : Brings (s48 x0 w) Q) : Brings (Xcall Try.prog (Value.func (Fn.func 48) #[] #[]) #[x0] w) Q :=
  h.call (Xcall_fn Try.func48 (by decide +kernel) (by rfl) _ _ _ w) fun _ h => c48 h

/-! (*lychgate/table.buckets[lychgate/api.Tuple, int]).all$1 -/
noncomputable def s49K0 : Exit → Act → World → Option (Value × World) := blockK 0 (leaveK Try.prog Try.f49)
noncomputable def s49L0 (s : List Value) (d : List Deferred) (w : World) : Option (Value × World) := loopN Try.prog 49 none (nav [1, 0, 0] (bodyOf Try.f49)) s49K0 s d w
noncomputable def s49K1 : Exit → Act → World → Option (Exit × List Value × World) := seqK (fun a w => evK Try.prog 49 none (nav [1, 0, 0, 1, 1, 1] (bodyOf Try.f49)) none _ a w (projK [0, 10, 11, 12])) (projK [0, 10, 11, 12])
noncomputable def s49K2 : Exit → Act → World → Option (Exit × List Value × World) := blockK 1 s49K1
noncomputable def s49K3 : Exit → Act → World → Option (Exit × List Value × World) := blockK 2 s49K2
noncomputable def s49L1 (s : List Value) (d : List Deferred) (w : World) : Option (Exit × List Value × World) := loopN Try.prog 49 none (nav [1, 0, 0, 1, 1, 0, 0, 1, 1, 0, 0] (bodyOf Try.f49)) s49K3 s d w
noncomputable def s49B1 : List Value → World → Option (Exit × List Value × World)
  | [x0, x10, x11, x12, x16, x17, x18], w =>
    (Qbin Try.prog Go.BinOp.lss 3 x18 x17).bind fun v1030 =>
    condK v1030 (
      (QindexAddr Try.prog 62 x16 x18 w).bind fun v1031 =>
      (Qload Try.prog 73 v1031 w).bind fun v1032 =>
      (Xalloc Try.prog 73 w).bind fun r1033 =>
      (Xstore Try.prog 73 r1033.1 v1032 r1033.2).bind fun r1034 =>
      (Qload Try.prog 73 r1033.1 r1034.2).bind fun v1035 =>
      (Xcall Try.prog x0 #[v1035] r1034.2).bind fun r1036 =>
      (Qun Go.UnOp.not r1036.1).bind fun v1037 =>
      condK v1037 (
        some (Exit.ret, [x0, x10, x11, x12, x16, x17, x18], r1036.2)
      ) (
        (Qbin Try.prog Go.BinOp.add 3 x18 (Go.Value.int Go.IntKind.i64 1)).bind fun v1038 =>
        some (Exit.normal, [x0, x10, x11, x12, x16, x17, v1038], r1036.2)
      )
    ) (
      some ((Exit.exit 2), [x0, x10, x11, x12, x16, x17, x18], w)
    )
  | _, _ => none
noncomputable def s49R1 : Exit → List Value → World → Option (Exit × List Value × World)
  | (Exit.exit 2), [x0, x10, x11, x12, _, _, _], w =>
    (Qbin Try.prog Go.BinOp.add 3 x12 (Go.Value.int Go.IntKind.i64 1)).bind fun v1039 =>
    some (Exit.normal, [x0, x10, x11, v1039], w)
  | Exit.ret, [x0, x10, x11, x12, _, _, _], w =>
    some (Exit.ret, [x0, x10, x11, x12], w)
  | _, _, _ => none
noncomputable def s49B0raw (g : Nat → Value) (d : List Deferred) : List Value → World → Option (Exit × List Value × World)
  | [x0, x10, x11, x12], w =>
    (Qbin Try.prog Go.BinOp.lss 3 x12 x11).bind fun v1026 =>
    condK v1026 (
      (QindexAddr Try.prog 65 x10 x12 w).bind fun v1027 =>
      (Qload Try.prog 62 v1027 w).bind fun v1028 =>
      (Qlen Try.prog #[62] 3 #[v1028] w).bind fun v1029 =>
      s49L1 [x0, (g 1), (g 2), (g 3), v1028, (g 5), (g 6), (g 7), (g 8), (g 9), x10, x11, x12, v1026, v1027, v1028, v1028, v1029, (Go.Value.int Go.IntKind.i64 0), (g 19), (g 20), (g 21), (g 22), (g 23), (g 24), (g 25), (g 26), (g 27)] d w
    ) (
      some ((Exit.exit 0), [x0, x10, x11, x12], w)
    )
  | _, _ => none
noncomputable def s49B0 : List Value → World → Option (Exit × List Value × World)
  | [x0, x10, x11, x12], w =>
    (Qbin Try.prog Go.BinOp.lss 3 x12 x11).bind fun v1026 =>
    condK v1026 (
      (QindexAddr Try.prog 65 x10 x12 w).bind fun v1027 =>
      (Qload Try.prog 62 v1027 w).bind fun v1028 =>
      (Qlen Try.prog #[62] 3 #[v1028] w).bind fun v1029 =>
      loopR s49B1 s49R1 [x0, x10, x11, x12, v1028, v1029, (Go.Value.int Go.IntKind.i64 0)] w
    ) (
      some ((Exit.exit 0), [x0, x10, x11, x12], w)
    )
  | _, _ => none
noncomputable def s49R0 : Exit → List Value → World → Option (Value × World)
  | (Exit.exit 0), [_, _, _, _], w =>
    some ((Value.tuple #[]), w)
  | Exit.ret, [_, _, _, _], w =>
    some ((Value.tuple #[]), w)
  | _, _, _ => none
noncomputable def s49raw (x0 x1 : Value) (w : World) : Option (Value × World) :=
  (Qload Try.prog 90 x1 w).bind fun v1021 =>
  (Qnil v1021).bind fun v1022 =>
  (QfieldAddr Try.prog 68 v1022 0).bind fun v1023 =>
  (Qload Try.prog 65 v1023 w).bind fun v1024 =>
  (Qlen Try.prog #[65] 3 #[v1024] w).bind fun v1025 =>
  s49L0 [x0, x1, undef, undef, undef, undef, undef, v1021, v1022, v1023, v1024, v1025, (Go.Value.int Go.IntKind.i64 0), undef, undef, undef, undef, undef, undef, undef, undef, undef, undef, undef, undef, undef, undef, undef] [] w
noncomputable def s49 (x0 x1 : Value) (w : World) : Option (Value × World) :=
  (Qload Try.prog 90 x1 w).bind fun v1021 =>
  (Qnil v1021).bind fun v1022 =>
  (QfieldAddr Try.prog 68 v1022 0).bind fun v1023 =>
  (Qload Try.prog 65 v1023 w).bind fun v1024 =>
  (Qlen Try.prog #[65] 3 #[v1024] w).bind fun v1025 =>
  loopR s49B0 s49R0 [x0, v1024, v1025, (Go.Value.int Go.IntKind.i64 0)] w
theorem s49B1eq (x0 x10 x11 x12 x16 x17 x18 : Value) (w : World) (g : Nat → Value) (d : List Deferred) : evK Try.prog 49 none (nav [1, 0, 0, 1, 1, 0, 0, 1, 1, 0, 0] (bodyOf Try.f49)) none _ (frm 28 (setL [0, 10, 11, 12, 16, 17, 18] [x0, x10, x11, x12, x16, x17, x18] g) d) w (projK [0, 10, 11, 12, 16, 17, 18]) = s49B1 [x0, x10, x11, x12, x16, x17, x18] w := by kernel_rfl
theorem s49R1x2eq (x0 x10 x11 x12 x16 x17 x18 : Value) (g : Nat → Value) (w : World) : s49K3 (Exit.exit 2) (frm 28 (setL [0, 10, 11, 12, 16, 17, 18] [x0, x10, x11, x12, x16, x17, x18] g) []) w = s49R1 (Exit.exit 2) [x0, x10, x11, x12, x16, x17, x18] w := by kernel_rfl
theorem s49R1ret_eq (x0 x10 x11 x12 x16 x17 x18 : Value) (g : Nat → Value) (w : World) : s49K3 Exit.ret (frm 28 (setL [0, 10, 11, 12, 16, 17, 18] [x0, x10, x11, x12, x16, x17, x18] g) []) w = s49R1 Exit.ret [x0, x10, x11, x12, x16, x17, x18] w := by kernel_rfl
theorem s49R1of : ∀ (e : Exit) (xs : List Value) (w : World) (g : Nat → Value) (y : _), s49R1 e xs w = some y → s49K3 e (frm 28 (setL [0, 10, 11, 12, 16, 17, 18] xs g) []) w = some y := by
  intro e xs w g y h
  unfold s49R1 at h
  split at h
  · exact (s49R1x2eq _ _ _ _ _ _ _ g _).trans h
  · exact (s49R1ret_eq _ _ _ _ _ _ _ g _).trans h
  · cases h
set_option maxRecDepth 20000 in
theorem s49L1of {s0 s1 s2 s3 s4 s5 s6 s7 s8 s9 s10 s11 s12 s13 s14 s15 s16 s17 s18 s19 s20 s21 s22 s23 s24 s25 s26 s27 : Value} {w : World} {r : _} (h : loopR s49B1 s49R1 [s0, s10, s11, s12, s16, s17, s18] w = some r) : s49L1 [s0, s1, s2, s3, s4, s5, s6, s7, s8, s9, s10, s11, s12, s13, s14, s15, s16, s17, s18, s19, s20, s21, s22, s23, s24, s25, s26, s27] [] w = some r :=
  loopN_of (B := s49B1) (R := s49R1) (n := 28) (live := [0, 10, 11, 12, 16, 17, 18]) (fun xs w g y hl h => match xs, hl, h with | [x0, x10, x11, x12, x16, x17, x18], _, h => (s49B1eq x0 x10 x11 x12 x16 x17 x18 w g []).trans h) (by kernel_rfl) (s49R1of) (fun i => ([s0, s1, s2, s3, s4, s5, s6, s7, s8, s9, s10, s11, s12, s13, s14, s15, s16, s17, s18, s19, s20, s21, s22, s23, s24, s25, s26, s27] : List Value).getD i undef) (by kernel_rfl) rfl h
theorem s49B0eq (x0 x10 x11 x12 : Value) (w : World) (g : Nat → Value) (d : List Deferred) : evK Try.prog 49 none (nav [1, 0, 0] (bodyOf Try.f49)) none _ (frm 28 (setL [0, 10, 11, 12] [x0, x10, x11, x12] g) d) w (projK [0, 10, 11, 12]) = s49B0raw g d [x0, x10, x11, x12] w := by kernel_rfl
theorem s49R0x0eq (x0 x10 x11 x12 : Value) (g : Nat → Value) (w : World) : s49K0 (Exit.exit 0) (frm 28 (setL [0, 10, 11, 12] [x0, x10, x11, x12] g) []) w = s49R0 (Exit.exit 0) [x0, x10, x11, x12] w := by kernel_rfl
theorem s49R0ret_eq (x0 x10 x11 x12 : Value) (g : Nat → Value) (w : World) : s49K0 Exit.ret (frm 28 (setL [0, 10, 11, 12] [x0, x10, x11, x12] g) []) w = s49R0 Exit.ret [x0, x10, x11, x12] w := by kernel_rfl
theorem s49R0of : ∀ (e : Exit) (xs : List Value) (w : World) (g : Nat → Value) (y : _), s49R0 e xs w = some y → s49K0 e (frm 28 (setL [0, 10, 11, 12] xs g) []) w = some y := by
  intro e xs w g y h
  unfold s49R0 at h
  split at h
  · exact (s49R0x0eq _ _ _ _ g _).trans h
  · exact (s49R0ret_eq _ _ _ _ g _).trans h
  · cases h
set_option maxRecDepth 20000 in
theorem s49L0of {s0 s1 s2 s3 s4 s5 s6 s7 s8 s9 s10 s11 s12 s13 s14 s15 s16 s17 s18 s19 s20 s21 s22 s23 s24 s25 s26 s27 : Value} {w : World} {r : _} (h : loopR s49B0 s49R0 [s0, s10, s11, s12] w = some r) : s49L0 [s0, s1, s2, s3, s4, s5, s6, s7, s8, s9, s10, s11, s12, s13, s14, s15, s16, s17, s18, s19, s20, s21, s22, s23, s24, s25, s26, s27] [] w = some r :=
  loopN_of (B := s49B0) (R := s49R0) (n := 28) (live := [0, 10, 11, 12]) (fun xs w g y hl h => match xs, hl, h with | [x0, x10, x11, x12], _, h => (s49B0eq x0 x10 x11 x12 w g []).trans (show s49B0raw g [] [x0, x10, x11, x12] w = some y from (Ev.bind_mono fun (v1026 : Value) => (condK_mono (Ev.bind_mono fun (v1027 : Value) => (Ev.bind_mono fun (v1028 : Value) => (Ev.bind_mono fun (v1029 : Value) => (s49L1of)))) id)) h)) (by kernel_rfl) (s49R0of) (fun i => ([s0, s1, s2, s3, s4, s5, s6, s7, s8, s9, s10, s11, s12, s13, s14, s15, s16, s17, s18, s19, s20, s21, s22, s23, s24, s25, s26, s27] : List Value).getD i undef) (by kernel_rfl) rfl h
theorem s49eq (x0 x1 : Value) (w : World) : evK Try.prog 49 none (bodyOf Try.f49) none _ { tmps := (([x0, x1] : List Value) ++ List.replicate (28 - 2) undef).toArray, defers := [] } w (leaveK Try.prog Try.f49) = s49raw x0 x1 w := by kernel_rfl
theorem c49 {x0 x1 : Value} {w : World} {r : Value × World} (h : s49 x0 x1 w = some r) : C Try.prog 49 #[x0, x1] w = some r :=
  C_ev follows_all drawLaw (by kernel_rfl) Try.func49 (by rfl) ((s49eq x0 x1 w).trans (show s49raw x0 x1 w = some r from (Ev.bind_mono fun (v1021 : Value) => (Ev.bind_mono fun (v1022 : Value) => (Ev.bind_mono fun (v1023 : Value) => (Ev.bind_mono fun (v1024 : Value) => (Ev.bind_mono fun (v1025 : Value) => (s49L0of)))))) h))
theorem e49 {x0 x1 : Value} {w : World} {Q : Value × World → Prop} (h : Brings (s49 x0 x1 w) Q) : Brings (Xcall Try.prog (Value.func (Fn.func 49) #[] #[x1]) #[x0] w) Q :=
  h.call (Xcall_fn Try.func49 (by decide +kernel) (by rfl) _ _ _ w) fun _ h => c49 h

end Go.Proofs.Ytcibkmahibnjeaa
