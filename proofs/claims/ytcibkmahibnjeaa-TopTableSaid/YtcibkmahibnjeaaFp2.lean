/- The functions of the program, by their texts. -/
import Derived.Test.YtcibkmahibnjeaaFp1
namespace Go.Proofs.Ytcibkmahibnjeaa
open Go Go.Ev
open Go.Proofs
/-! slices.pdqsortCmpFunc[lychgate/table.row[lychgate/api.Tuple, int]] -/
noncomputable def s50K0 : Exit → Act → World → Option (Value × World) := blockK 0 (leaveK Try.prog Try.f50)
noncomputable def s50L0 (s : List Value) (d : List Deferred) (w : World) : Option (Value × World) := loopN Try.prog 50 none (nav [1, 1, 0, 0] (bodyOf Try.f50)) s50K0 s d w
noncomputable def s50K1 : Exit → Act → World → Option (Exit × List Value × World) := blockK 1 (projK [0, 1, 2, 3, 4, 10, 11])
noncomputable def s50K2 : Exit → Act → World → Option (Exit × List Value × World) := seqK (fun a w => evK Try.prog 50 none (nav [1, 1, 0, 0, 0, 1, 1, 1, 1] (bodyOf Try.f50)) none _ a w s50K1) s50K1
noncomputable def s50J1 (s : List Value) (d : List Deferred) (w : World) : Option (Exit × List Value × World) := s50K2 .normal ⟨s.toArray, d⟩ w
noncomputable def s50K3 : Exit → Act → World → Option (Exit × List Value × World) := seqK (fun a w => evK Try.prog 50 none (nav [1, 1, 0, 0, 0, 1, 1, 1, 1, 1, 1] (bodyOf Try.f50)) none _ a w s50K1) s50K1
noncomputable def s50J2 (s : List Value) (d : List Deferred) (w : World) : Option (Exit × List Value × World) := s50K3 .normal ⟨s.toArray, d⟩ w
noncomputable def s50K4 : Exit → Act → World → Option (Exit × List Value × World) := seqK (fun a w => evK Try.prog 50 none (nav [1, 1, 0, 0, 0, 1, 1, 1, 1, 1, 1, 1] (bodyOf Try.f50)) none _ a w s50K1) s50K1
noncomputable def s50J3 (s : List Value) (d : List Deferred) (w : World) : Option (Exit × List Value × World) := s50K4 .normal ⟨s.toArray, d⟩ w
noncomputable def s50M3 (s0 s1 s2 s3 s4 s10 s11 s12 s13 : Value) (w : World) : Option (Exit × List Value × World) :=
  (Qbin Try.prog Go.BinOp.gtr 3 s1 (Go.Value.int Go.IntKind.i64 0)).bind fun v1060 =>
  (guardQ v1060 true (Qbin Try.prog Go.BinOp.sub 3 (gv (isB v1060 true) s1) (Go.Value.int Go.IntKind.i64 1))).bind fun v1061 =>
  (guardQ v1060 true (QindexAddr Try.prog 62 (gv (isB v1060 true) s0) v1061 w.drew)).bind fun v1062 =>
  (guardQ v1060 true (Qload Try.prog 73 v1062 w.drew)).bind fun v1063 =>
  (guardQ v1060 true (QindexAddr Try.prog 62 (gv (isB v1060 true) s0) (gv (isB v1060 true) s13) w.drew)).bind fun v1064 =>
  (guardQ v1060 true (Qload Try.prog 73 v1064 w.drew)).bind fun v1065 =>
  (guardX v1060 true w.drew (Xcall Try.prog (gv (isB v1060 true) s4) #[v1063, v1065] w.drew)).bind fun r1066 =>
  (guardQ v1060 true (Qbin Try.prog Go.BinOp.lss 3 r1066.1 (Go.Value.int Go.IntKind.i64 0))).bind fun v1067 =>
  (guardQ v1060 true (Qun Go.UnOp.not v1067)).bind fun v1068 =>
  (Qpick v1060 v1068 (Go.Value.bool false)).bind fun v1069 =>
  chkK True (
    condK v1069 (
      (Xcall Try.prog (Value.func (Fn.func 66) #[] #[]) #[s0, s1, s2, s13, s4] r1066.2).bind fun r1070 =>
      some (Exit.normal, [s0, r1070.1, s2, s3, s4, s10, s11], r1070.2)
    ) (
      (Xcall Try.prog (Value.func (Fn.func 67) #[] #[]) #[s0, s1, s2, s13, s4] r1066.2).bind fun r1071 =>
      (Qext r1071.1 0).bind fun v1072 =>
      (Qext r1071.1 1).bind fun v1073 =>
      (Qbin Try.prog Go.BinOp.sub 3 v1072 s1).bind fun v1074 =>
      (Qbin Try.prog Go.BinOp.sub 3 s2 v1072).bind fun v1075 =>
      (Qbin Try.prog Go.BinOp.quo 3 s12 (Go.Value.int Go.IntKind.i64 8)).bind fun v1076 =>
      (Qbin Try.prog Go.BinOp.lss 3 v1074 v1075).bind fun v1077 =>
      condK v1077 (
        (Qbin Try.prog Go.BinOp.geq 3 v1074 v1076).bind fun v1078 =>
        (Xcall Try.prog (Value.func (Fn.func 50) #[] #[]) #[s0, s1, v1072, s3, s4] r1071.2).bind fun r1079 =>
        (Qbin Try.prog Go.BinOp.add 3 v1072 (Go.Value.int Go.IntKind.i64 1)).bind fun v1080 =>
        some (Exit.normal, [s0, v1080, s2, s3, s4, v1078, v1073], r1079.2)
      ) (
        (Qbin Try.prog Go.BinOp.geq 3 v1075 v1076).bind fun v1081 =>
        (Qbin Try.prog Go.BinOp.add 3 v1072 (Go.Value.int Go.IntKind.i64 1)).bind fun v1082 =>
        (Xcall Try.prog (Value.func (Fn.func 50) #[] #[]) #[s0, v1082, s2, s3, s4] r1071.2).bind fun r1083 =>
        some (Exit.normal, [s0, s1, v1072, s3, s4, v1081, v1073], r1083.2)
      )
    )
  )
noncomputable def s50M2raw (s0 s1 s2 s3 s4 s5 s6 s7 s8 s9 s10 s11 s12 s13 s14 s15 s16 s17 s18 s19 s20 s21 s22 s23 s24 s25 s26 s27 s28 s29 s30 s31 s32 s33 s34 s35 s36 s37 s38 s39 s40 s41 s42 s43 s44 s45 s46 s47 s48 s49 s50 s51 s52 s53 s54 s55 s56 s57 s58 s59 s60 s61 s62 s63 s64 s65 s66 s67 _s68 _s69 _s70 _s71 _s72 _s73 _s74 _s75 s76 s77 s78 s79 s80 s81 s82 s83 s84 s85 s86 s87 s88 s89 s90 s91 s92 s93 s94 s95 s96 s97 s98 s99 s100 s101 s102 s103 s104 s105 s106 s107 s108 s109 s110 s111 s112 s113 s114 s115 s116 s117 s118 s119 s120 s121 s122 s123 s124 s125 s126 s127 s128 s129 s130 s131 s132 s133 s134 s135 s136 s137 s138 s139 s140 s141 s142 s143 s144 s145 s146 s147 : Value) (w : World) : Option (Exit × List Value × World) :=
  (Qpick s10 (gv (isB s10 true) s11) (Go.Value.bool false)).bind fun v1056 =>
  (guardQ v1056 true (Qbin Try.prog Go.BinOp.eql 105 (gv (isB v1056 true) s14) (Go.Value.int Go.IntKind.i64 1))).bind fun v1057 =>
  (Qpick v1056 v1057 (Go.Value.bool false)).bind fun v1058 =>
  condK v1058 (
    (Xcall Try.prog (Value.func (Fn.func 65) #[] #[]) #[s0, s1, s2, s4] w).bind fun r1059 =>
    condK r1059.1 (
      some (Exit.ret, [s0, s1, s2, s3, s4, s10, s11], r1059.2)
    ) (
      s50J3 [s0, s1, s2, s3, s4, s5, s6, s7, s8, s9, s10, s11, s12, s13, s14, s15, s16, s17, s18, s19, s20, s21, s22, s23, s24, s25, s26, s27, s28, s29, s30, s31, s32, s33, s34, s35, s36, s37, s38, s39, s40, s41, s42, s43, s44, s45, s46, s47, s48, s49, s50, s51, s52, s53, s54, s55, s56, s57, s58, s59, s60, s61, s62, s63, s64, s65, s66, s67, s10, s10, (gv (isB s10 true) s11), v1056, v1056, (gv (isB v1056 true) s14), v1057, v1058, s0, s1, s2, s4, r1059.1, s81, s82, s83, s84, s85, s86, s87, s88, s89, s90, s91, s92, s93, s94, s95, s96, s97, s98, s99, s100, s101, s102, s103, s104, s105, s106, s107, s108, s109, s110, s111, s112, s113, s114, s115, s116, s117, s118, s119, s120, s121, s122, s123, s124, s125, s126, s127, s128, s129, s130, s131, s132, s133, s134, s135, s136, s137, s138, s139, s140, s141, s142, s143, s144, s145, s146, s147] [] r1059.2
    )
  ) (
    s50J3 [s0, s1, s2, s3, s4, s5, s6, s7, s8, s9, s10, s11, s12, s13, s14, s15, s16, s17, s18, s19, s20, s21, s22, s23, s24, s25, s26, s27, s28, s29, s30, s31, s32, s33, s34, s35, s36, s37, s38, s39, s40, s41, s42, s43, s44, s45, s46, s47, s48, s49, s50, s51, s52, s53, s54, s55, s56, s57, s58, s59, s60, s61, s62, s63, s64, s65, s66, s67, s10, s10, (gv (isB s10 true) s11), v1056, v1056, (gv (isB v1056 true) s14), v1057, v1058, s76, s77, s78, s79, s80, s81, s82, s83, s84, s85, s86, s87, s88, s89, s90, s91, s92, s93, s94, s95, s96, s97, s98, s99, s100, s101, s102, s103, s104, s105, s106, s107, s108, s109, s110, s111, s112, s113, s114, s115, s116, s117, s118, s119, s120, s121, s122, s123, s124, s125, s126, s127, s128, s129, s130, s131, s132, s133, s134, s135, s136, s137, s138, s139, s140, s141, s142, s143, s144, s145, s146, s147] [] w
  )
noncomputable def s50M2 (s0 s1 s2 s3 s4 s10 s11 s12 s13 s14 : Value) (w : World) : Option (Exit × List Value × World) :=
  (Qpick s10 (gv (isB s10 true) s11) (Go.Value.bool false)).bind fun v1056 =>
  (guardQ v1056 true (Qbin Try.prog Go.BinOp.eql 105 (gv (isB v1056 true) s14) (Go.Value.int Go.IntKind.i64 1))).bind fun v1057 =>
  (Qpick v1056 v1057 (Go.Value.bool false)).bind fun v1058 =>
  condK v1058 (
    (Xcall Try.prog (Value.func (Fn.func 65) #[] #[]) #[s0, s1, s2, s4] w).bind fun r1059 =>
    condK r1059.1 (
      some (Exit.ret, [s0, s1, s2, s3, s4, s10, s11], r1059.2)
    ) (
      s50M3 s0 s1 s2 s3 s4 s10 s11 s12 s13 r1059.2
    )
  ) (
    s50M3 s0 s1 s2 s3 s4 s10 s11 s12 s13 w
  )
noncomputable def s50M1raw (s0 s1 s2 s3 s4 s5 s6 s7 s8 s9 s10 s11 s12 _s13 _s14 s15 s16 s17 s18 s19 s20 s21 s22 s23 s24 s25 s26 s27 s28 s29 s30 s31 s32 s33 s34 s35 s36 s37 s38 s39 s40 s41 s42 s43 s44 s45 s46 _s47 _s48 _s49 _s50 _s51 _s52 _s53 _s54 _s55 _s56 s57 s58 s59 s60 s61 s62 s63 s64 s65 s66 s67 s68 s69 s70 s71 s72 s73 s74 s75 s76 s77 s78 s79 s80 s81 s82 s83 s84 s85 s86 s87 s88 s89 s90 s91 s92 s93 s94 s95 s96 s97 s98 s99 s100 s101 s102 s103 s104 s105 s106 s107 s108 s109 s110 s111 s112 s113 s114 s115 s116 s117 s118 s119 s120 s121 s122 s123 s124 s125 s126 s127 s128 s129 s130 s131 s132 s133 s134 s135 s136 s137 s138 s139 s140 s141 s142 s143 s144 s145 s146 s147 : Value) (w : World) : Option (Exit × List Value × World) :=
  (Xcall Try.prog (Value.func (Fn.func 63) #[] #[]) #[s0, s1, s2, s4] w).bind fun r1048 =>
  (Qext r1048.1 0).bind fun v1049 =>
  (Qext r1048.1 1).bind fun v1050 =>
  (Qbin Try.prog Go.BinOp.eql 105 v1050 (Go.Value.int Go.IntKind.i64 2)).bind fun v1051 =>
  condK v1051 (
    (Xcall Try.prog (Value.func (Fn.func 64) #[] #[]) #[s0, s1, s2, s4] r1048.2).bind fun r1052 =>
    (Qbin Try.prog Go.BinOp.sub 3 s2 (Go.Value.int Go.IntKind.i64 1)).bind fun v1053 =>
    (Qbin Try.prog Go.BinOp.sub 3 v1049 s1).bind fun v1054 =>
    (Qbin Try.prog Go.BinOp.sub 3 v1053 v1054).bind fun v1055 =>
    s50J2 [s0, s1, s2, s3, s4, s5, s6, s7, s8, s9, s10, s11, s12, v1055, (Go.Value.int Go.IntKind.i64 1), s15, s16, s17, s18, s19, s20, s21, s22, s23, s24, s25, s26, s27, s28, s29, s30, s31, s32, s33, s34, s35, s36, s37, s38, s39, s40, s41, s42, s43, s44, s45, s46, r1048.1, s0, s1, s2, s4, r1048.1, v1049, v1050, v1050, v1051, s0, s1, s2, s4, r1052.1, s2, v1053, v1049, s1, v1054, v1055, s68, s69, s70, s71, s72, s73, s74, s75, s76, s77, s78, s79, s80, s81, s82, s83, s84, s85, s86, s87, s88, s89, s90, s91, s92, s93, s94, s95, s96, s97, s98, s99, s100, s101, s102, s103, s104, s105, s106, s107, s108, s109, s110, s111, s112, s113, s114, s115, s116, s117, s118, s119, s120, s121, s122, s123, s124, s125, s126, s127, s128, s129, s130, s131, s132, s133, s134, s135, s136, s137, s138, s139, s140, s141, s142, s143, s144, s145, s146, s147] [] r1052.2
  ) (
    s50J2 [s0, s1, s2, s3, s4, s5, s6, s7, s8, s9, s10, s11, s12, v1049, v1050, s15, s16, s17, s18, s19, s20, s21, s22, s23, s24, s25, s26, s27, s28, s29, s30, s31, s32, s33, s34, s35, s36, s37, s38, s39, s40, s41, s42, s43, s44, s45, s46, r1048.1, s0, s1, s2, s4, r1048.1, v1049, v1050, v1050, v1051, s57, s58, s59, s60, s61, s62, s63, s64, s65, s66, s67, s68, s69, s70, s71, s72, s73, s74, s75, s76, s77, s78, s79, s80, s81, s82, s83, s84, s85, s86, s87, s88, s89, s90, s91, s92, s93, s94, s95, s96, s97, s98, s99, s100, s101, s102, s103, s104, s105, s106, s107, s108, s109, s110, s111, s112, s113, s114, s115, s116, s117, s118, s119, s120, s121, s122, s123, s124, s125, s126, s127, s128, s129, s130, s131, s132, s133, s134, s135, s136, s137, s138, s139, s140, s141, s142, s143, s144, s145, s146, s147] [] r1048.2
  )
noncomputable def s50M1 (s0 s1 s2 s3 s4 s10 s11 s12 : Value) (w : World) : Option (Exit × List Value × World) :=
  (Xcall Try.prog (Value.func (Fn.func 63) #[] #[]) #[s0, s1, s2, s4] w).bind fun r1048 =>
  (Qext r1048.1 0).bind fun v1049 =>
  (Qext r1048.1 1).bind fun v1050 =>
  (Qbin Try.prog Go.BinOp.eql 105 v1050 (Go.Value.int Go.IntKind.i64 2)).bind fun v1051 =>
  condK v1051 (
    (Xcall Try.prog (Value.func (Fn.func 64) #[] #[]) #[s0, s1, s2, s4] r1048.2).bind fun r1052 =>
    (Qbin Try.prog Go.BinOp.sub 3 s2 (Go.Value.int Go.IntKind.i64 1)).bind fun v1053 =>
    (Qbin Try.prog Go.BinOp.sub 3 v1049 s1).bind fun v1054 =>
    (Qbin Try.prog Go.BinOp.sub 3 v1053 v1054).bind fun v1055 =>
    s50M2 s0 s1 s2 s3 s4 s10 s11 s12 v1055 (Go.Value.int Go.IntKind.i64 1) r1052.2
  ) (
    s50M2 s0 s1 s2 s3 s4 s10 s11 s12 v1049 v1050 r1048.2
  )
noncomputable def s50B0raw (g : Nat → Value) (d : List Deferred) : List Value → World → Option (Exit × List Value × World)
  | [x0, x1, x2, x3, x4, x10, x11], w =>
    (Qbin Try.prog Go.BinOp.sub 3 x2 x1).bind fun v1040 =>
    (Qbin Try.prog Go.BinOp.leq 3 v1040 (Go.Value.int Go.IntKind.i64 12)).bind fun v1041 =>
    condK v1041 (
      (Xcall Try.prog (Value.func (Fn.func 60) #[] #[]) #[x0, x1, x2, x4] w).bind fun r1042 =>
      some (Exit.ret, [x0, x1, x2, x3, x4, x10, x11], r1042.2)
    ) (
      (Qbin Try.prog Go.BinOp.eql 3 x3 (Go.Value.int Go.IntKind.i64 0)).bind fun v1043 =>
      condK v1043 (
        (Xcall Try.prog (Value.func (Fn.func 61) #[] #[]) #[x0, x1, x2, x4] w).bind fun r1044 =>
        some (Exit.ret, [x0, x1, x2, x3, x4, x10, x11], r1044.2)
      ) (
        (Qun Go.UnOp.not x10).bind fun v1045 =>
        condK v1045 (
          (Xcall Try.prog (Value.func (Fn.func 62) #[] #[]) #[x0, x1, x2, x4] w).bind fun r1046 =>
          (Qbin Try.prog Go.BinOp.sub 3 x3 (Go.Value.int Go.IntKind.i64 1)).bind fun v1047 =>
          s50J1 [x0, x1, x2, v1047, x4, (g 5), (g 6), (g 7), (g 8), (g 9), x10, x11, v1040, (g 13), (g 14), (g 15), (g 16), (g 17), (g 18), (g 19), (g 20), x2, x1, v1040, v1040, v1041, (g 26), (g 27), (g 28), (g 29), (g 30), x3, v1043, (g 33), (g 34), (g 35), (g 36), (g 37), x10, v1045, x0, x1, x2, x4, r1046.1, x3, v1047, (g 47), (g 48), (g 49), (g 50), (g 51), (g 52), (g 53), (g 54), (g 55), (g 56), (g 57), (g 58), (g 59), (g 60), (g 61), (g 62), (g 63), (g 64), (g 65), (g 66), (g 67), (g 68), (g 69), (g 70), (g 71), (g 72), (g 73), (g 74), (g 75), (g 76), (g 77), (g 78), (g 79), (g 80), (g 81), (g 82), (g 83), (g 84), (g 85), (g 86), (g 87), (g 88), (g 89), (g 90), (g 91), (g 92), (g 93), (g 94), (g 95), (g 96), (g 97), (g 98), (g 99), (g 100), (g 101), (g 102), (g 103), (g 104), (g 105), (g 106), (g 107), (g 108), (g 109), (g 110), (g 111), (g 112), (g 113), (g 114), (g 115), (g 116), (g 117), (g 118), (g 119), (g 120), (g 121), (g 122), (g 123), (g 124), (g 125), (g 126), (g 127), (g 128), (g 129), (g 130), (g 131), (g 132), (g 133), (g 134), (g 135), (g 136), (g 137), (g 138), (g 139), (g 140), (g 141), (g 142), (g 143), (g 144), (g 145), (g 146), (g 147)] d r1046.2
        ) (
          s50J1 [x0, x1, x2, x3, x4, (g 5), (g 6), (g 7), (g 8), (g 9), x10, x11, v1040, (g 13), (g 14), (g 15), (g 16), (g 17), (g 18), (g 19), (g 20), x2, x1, v1040, v1040, v1041, (g 26), (g 27), (g 28), (g 29), (g 30), x3, v1043, (g 33), (g 34), (g 35), (g 36), (g 37), x10, v1045, (g 40), (g 41), (g 42), (g 43), (g 44), (g 45), (g 46), (g 47), (g 48), (g 49), (g 50), (g 51), (g 52), (g 53), (g 54), (g 55), (g 56), (g 57), (g 58), (g 59), (g 60), (g 61), (g 62), (g 63), (g 64), (g 65), (g 66), (g 67), (g 68), (g 69), (g 70), (g 71), (g 72), (g 73), (g 74), (g 75), (g 76), (g 77), (g 78), (g 79), (g 80), (g 81), (g 82), (g 83), (g 84), (g 85), (g 86), (g 87), (g 88), (g 89), (g 90), (g 91), (g 92), (g 93), (g 94), (g 95), (g 96), (g 97), (g 98), (g 99), (g 100), (g 101), (g 102), (g 103), (g 104), (g 105), (g 106), (g 107), (g 108), (g 109), (g 110), (g 111), (g 112), (g 113), (g 114), (g 115), (g 116), (g 117), (g 118), (g 119), (g 120), (g 121), (g 122), (g 123), (g 124), (g 125), (g 126), (g 127), (g 128), (g 129), (g 130), (g 131), (g 132), (g 133), (g 134), (g 135), (g 136), (g 137), (g 138), (g 139), (g 140), (g 141), (g 142), (g 143), (g 144), (g 145), (g 146), (g 147)] d w
        )
      )
    )
  | _, _ => none
noncomputable def s50B0 : List Value → World → Option (Exit × List Value × World)
  | [x0, x1, x2, x3, x4, x10, x11], w =>
    (Qbin Try.prog Go.BinOp.sub 3 x2 x1).bind fun v1040 =>
    (Qbin Try.prog Go.BinOp.leq 3 v1040 (Go.Value.int Go.IntKind.i64 12)).bind fun v1041 =>
    condK v1041 (
      (Xcall Try.prog (Value.func (Fn.func 60) #[] #[]) #[x0, x1, x2, x4] w).bind fun r1042 =>
      some (Exit.ret, [x0, x1, x2, x3, x4, x10, x11], r1042.2)
    ) (
      (Qbin Try.prog Go.BinOp.eql 3 x3 (Go.Value.int Go.IntKind.i64 0)).bind fun v1043 =>
      condK v1043 (
        (Xcall Try.prog (Value.func (Fn.func 61) #[] #[]) #[x0, x1, x2, x4] w).bind fun r1044 =>
        some (Exit.ret, [x0, x1, x2, x3, x4, x10, x11], r1044.2)
      ) (
        (Qun Go.UnOp.not x10).bind fun v1045 =>
        condK v1045 (
          (Xcall Try.prog (Value.func (Fn.func 62) #[] #[]) #[x0, x1, x2, x4] w).bind fun r1046 =>
          (Qbin Try.prog Go.BinOp.sub 3 x3 (Go.Value.int Go.IntKind.i64 1)).bind fun v1047 =>
          s50M1 x0 x1 x2 v1047 x4 x10 x11 v1040 r1046.2
        ) (
          s50M1 x0 x1 x2 x3 x4 x10 x11 v1040 w
        )
      )
    )
  | _, _ => none
noncomputable def s50R0 : Exit → List Value → World → Option (Value × World)
  | Exit.ret, [_, _, _, _, _, _, _], w =>
    some ((Value.tuple #[]), w)
  | _, _, _ => none
noncomputable def s50raw (x0 x1 x2 x3 x4 : Value) (w : World) : Option (Value × World) :=
  s50L0 [x0, x1, x2, x3, x4, undef, undef, undef, undef, undef, (Go.Value.bool true), (Go.Value.bool true), undef, undef, undef, undef, undef, undef, undef, undef, undef, undef, undef, undef, undef, undef, undef, undef, undef, undef, undef, undef, undef, undef, undef, undef, undef, undef, undef, undef, undef, undef, undef, undef, undef, undef, undef, undef, undef, undef, undef, undef, undef, undef, undef, undef, undef, undef, undef, undef, undef, undef, undef, undef, undef, undef, undef, undef, undef, undef, undef, undef, undef, undef, undef, undef, undef, undef, undef, undef, undef, undef, undef, undef, undef, undef, undef, undef, undef, undef, undef, undef, undef, undef, undef, undef, undef, undef, undef, undef, undef, undef, undef, undef, undef, undef, undef, undef, undef, undef, undef, undef, undef, undef, undef, undef, undef, undef, undef, undef, undef, undef, undef, undef, undef, undef, undef, undef, undef, undef, undef, undef, undef, undef, undef, undef, undef, undef, undef, undef, undef, undef, undef, undef, undef, undef, undef, undef] [] w
noncomputable def s50 (x0 x1 x2 x3 x4 : Value) (w : World) : Option (Value × World) :=
  loopR s50B0 s50R0 [x0, x1, x2, x3, x4, (Go.Value.bool true), (Go.Value.bool true)] w
theorem s50J3eq (s0 s1 s2 s3 s4 s5 s6 s7 s8 s9 s10 s11 s12 s13 s14 s15 s16 s17 s18 s19 s20 s21 s22 s23 s24 s25 s26 s27 s28 s29 s30 s31 s32 s33 s34 s35 s36 s37 s38 s39 s40 s41 s42 s43 s44 s45 s46 s47 s48 s49 s50 s51 s52 s53 s54 s55 s56 s57 s58 s59 s60 s61 s62 s63 s64 s65 s66 s67 s68 s69 s70 s71 s72 s73 s74 s75 s76 s77 s78 s79 s80 s81 s82 s83 s84 s85 s86 s87 s88 s89 s90 s91 s92 s93 s94 s95 s96 s97 s98 s99 s100 s101 s102 s103 s104 s105 s106 s107 s108 s109 s110 s111 s112 s113 s114 s115 s116 s117 s118 s119 s120 s121 s122 s123 s124 s125 s126 s127 s128 s129 s130 s131 s132 s133 s134 s135 s136 s137 s138 s139 s140 s141 s142 s143 s144 s145 s146 s147 : Value) (w : World) : s50J3 [s0, s1, s2, s3, s4, s5, s6, s7, s8, s9, s10, s11, s12, s13, s14, s15, s16, s17, s18, s19, s20, s21, s22, s23, s24, s25, s26, s27, s28, s29, s30, s31, s32, s33, s34, s35, s36, s37, s38, s39, s40, s41, s42, s43, s44, s45, s46, s47, s48, s49, s50, s51, s52, s53, s54, s55, s56, s57, s58, s59, s60, s61, s62, s63, s64, s65, s66, s67, s68, s69, s70, s71, s72, s73, s74, s75, s76, s77, s78, s79, s80, s81, s82, s83, s84, s85, s86, s87, s88, s89, s90, s91, s92, s93, s94, s95, s96, s97, s98, s99, s100, s101, s102, s103, s104, s105, s106, s107, s108, s109, s110, s111, s112, s113, s114, s115, s116, s117, s118, s119, s120, s121, s122, s123, s124, s125, s126, s127, s128, s129, s130, s131, s132, s133, s134, s135, s136, s137, s138, s139, s140, s141, s142, s143, s144, s145, s146, s147] [] w = s50M3 s0 s1 s2 s3 s4 s10 s11 s12 s13 w := (show s50J3 [s0, s1, s2, s3, s4, s5, s6, s7, s8, s9, s10, s11, s12, s13, s14, s15, s16, s17, s18, s19, s20, s21, s22, s23, s24, s25, s26, s27, s28, s29, s30, s31, s32, s33, s34, s35, s36, s37, s38, s39, s40, s41, s42, s43, s44, s45, s46, s47, s48, s49, s50, s51, s52, s53, s54, s55, s56, s57, s58, s59, s60, s61, s62, s63, s64, s65, s66, s67, s68, s69, s70, s71, s72, s73, s74, s75, s76, s77, s78, s79, s80, s81, s82, s83, s84, s85, s86, s87, s88, s89, s90, s91, s92, s93, s94, s95, s96, s97, s98, s99, s100, s101, s102, s103, s104, s105, s106, s107, s108, s109, s110, s111, s112, s113, s114, s115, s116, s117, s118, s119, s120, s121, s122, s123, s124, s125, s126, s127, s128, s129, s130, s131, s132, s133, s134, s135, s136, s137, s138, s139, s140, s141, s142, s143, s144, s145, s146, s147] [] w = evK Try.prog 50 none (nav [1, 1, 0, 0, 0, 1, 1, 1, 1, 1, 1, 1] (bodyOf Try.f50)) none _ ⟨[s0, s1, s2, s3, s4, s5, s6, s7, s8, s9, s10, s11, s12, s13, s14, s15, s16, s17, s18, s19, s20, s21, s22, s23, s24, s25, s26, s27, s28, s29, s30, s31, s32, s33, s34, s35, s36, s37, s38, s39, s40, s41, s42, s43, s44, s45, s46, s47, s48, s49, s50, s51, s52, s53, s54, s55, s56, s57, s58, s59, s60, s61, s62, s63, s64, s65, s66, s67, s68, s69, s70, s71, s72, s73, s74, s75, s76, s77, s78, s79, s80, s81, s82, s83, s84, s85, s86, s87, s88, s89, s90, s91, s92, s93, s94, s95, s96, s97, s98, s99, s100, s101, s102, s103, s104, s105, s106, s107, s108, s109, s110, s111, s112, s113, s114, s115, s116, s117, s118, s119, s120, s121, s122, s123, s124, s125, s126, s127, s128, s129, s130, s131, s132, s133, s134, s135, s136, s137, s138, s139, s140, s141, s142, s143, s144, s145, s146, s147].toArray, []⟩ w s50K1 from by kernel_rfl).trans (by kernel_rfl)
theorem s50J3of {s0 s1 s2 s3 s4 s5 s6 s7 s8 s9 s10 s11 s12 s13 s14 s15 s16 s17 s18 s19 s20 s21 s22 s23 s24 s25 s26 s27 s28 s29 s30 s31 s32 s33 s34 s35 s36 s37 s38 s39 s40 s41 s42 s43 s44 s45 s46 s47 s48 s49 s50 s51 s52 s53 s54 s55 s56 s57 s58 s59 s60 s61 s62 s63 s64 s65 s66 s67 s68 s69 s70 s71 s72 s73 s74 s75 s76 s77 s78 s79 s80 s81 s82 s83 s84 s85 s86 s87 s88 s89 s90 s91 s92 s93 s94 s95 s96 s97 s98 s99 s100 s101 s102 s103 s104 s105 s106 s107 s108 s109 s110 s111 s112 s113 s114 s115 s116 s117 s118 s119 s120 s121 s122 s123 s124 s125 s126 s127 s128 s129 s130 s131 s132 s133 s134 s135 s136 s137 s138 s139 s140 s141 s142 s143 s144 s145 s146 s147 : Value} {w : World} {r : _} (h : s50M3 s0 s1 s2 s3 s4 s10 s11 s12 s13 w = some r) : s50J3 [s0, s1, s2, s3, s4, s5, s6, s7, s8, s9, s10, s11, s12, s13, s14, s15, s16, s17, s18, s19, s20, s21, s22, s23, s24, s25, s26, s27, s28, s29, s30, s31, s32, s33, s34, s35, s36, s37, s38, s39, s40, s41, s42, s43, s44, s45, s46, s47, s48, s49, s50, s51, s52, s53, s54, s55, s56, s57, s58, s59, s60, s61, s62, s63, s64, s65, s66, s67, s68, s69, s70, s71, s72, s73, s74, s75, s76, s77, s78, s79, s80, s81, s82, s83, s84, s85, s86, s87, s88, s89, s90, s91, s92, s93, s94, s95, s96, s97, s98, s99, s100, s101, s102, s103, s104, s105, s106, s107, s108, s109, s110, s111, s112, s113, s114, s115, s116, s117, s118, s119, s120, s121, s122, s123, s124, s125, s126, s127, s128, s129, s130, s131, s132, s133, s134, s135, s136, s137, s138, s139, s140, s141, s142, s143, s144, s145, s146, s147] [] w = some r :=
  ((s50J3eq s0 s1 s2 s3 s4 s5 s6 s7 s8 s9 s10 s11 s12 s13 s14 s15 s16 s17 s18 s19 s20 s21 s22 s23 s24 s25 s26 s27 s28 s29 s30 s31 s32 s33 s34 s35 s36 s37 s38 s39 s40 s41 s42 s43 s44 s45 s46 s47 s48 s49 s50 s51 s52 s53 s54 s55 s56 s57 s58 s59 s60 s61 s62 s63 s64 s65 s66 s67 s68 s69 s70 s71 s72 s73 s74 s75 s76 s77 s78 s79 s80 s81 s82 s83 s84 s85 s86 s87 s88 s89 s90 s91 s92 s93 s94 s95 s96 s97 s98 s99 s100 s101 s102 s103 s104 s105 s106 s107 s108 s109 s110 s111 s112 s113 s114 s115 s116 s117 s118 s119 s120 s121 s122 s123 s124 s125 s126 s127 s128 s129 s130 s131 s132 s133 s134 s135 s136 s137 s138 s139 s140 s141 s142 s143 s144 s145 s146 s147 w).trans h)
theorem s50J2eq (s0 s1 s2 s3 s4 s5 s6 s7 s8 s9 s10 s11 s12 s13 s14 s15 s16 s17 s18 s19 s20 s21 s22 s23 s24 s25 s26 s27 s28 s29 s30 s31 s32 s33 s34 s35 s36 s37 s38 s39 s40 s41 s42 s43 s44 s45 s46 s47 s48 s49 s50 s51 s52 s53 s54 s55 s56 s57 s58 s59 s60 s61 s62 s63 s64 s65 s66 s67 s68 s69 s70 s71 s72 s73 s74 s75 s76 s77 s78 s79 s80 s81 s82 s83 s84 s85 s86 s87 s88 s89 s90 s91 s92 s93 s94 s95 s96 s97 s98 s99 s100 s101 s102 s103 s104 s105 s106 s107 s108 s109 s110 s111 s112 s113 s114 s115 s116 s117 s118 s119 s120 s121 s122 s123 s124 s125 s126 s127 s128 s129 s130 s131 s132 s133 s134 s135 s136 s137 s138 s139 s140 s141 s142 s143 s144 s145 s146 s147 : Value) (w : World) : s50J2 [s0, s1, s2, s3, s4, s5, s6, s7, s8, s9, s10, s11, s12, s13, s14, s15, s16, s17, s18, s19, s20, s21, s22, s23, s24, s25, s26, s27, s28, s29, s30, s31, s32, s33, s34, s35, s36, s37, s38, s39, s40, s41, s42, s43, s44, s45, s46, s47, s48, s49, s50, s51, s52, s53, s54, s55, s56, s57, s58, s59, s60, s61, s62, s63, s64, s65, s66, s67, s68, s69, s70, s71, s72, s73, s74, s75, s76, s77, s78, s79, s80, s81, s82, s83, s84, s85, s86, s87, s88, s89, s90, s91, s92, s93, s94, s95, s96, s97, s98, s99, s100, s101, s102, s103, s104, s105, s106, s107, s108, s109, s110, s111, s112, s113, s114, s115, s116, s117, s118, s119, s120, s121, s122, s123, s124, s125, s126, s127, s128, s129, s130, s131, s132, s133, s134, s135, s136, s137, s138, s139, s140, s141, s142, s143, s144, s145, s146, s147] [] w = s50M2raw s0 s1 s2 s3 s4 s5 s6 s7 s8 s9 s10 s11 s12 s13 s14 s15 s16 s17 s18 s19 s20 s21 s22 s23 s24 s25 s26 s27 s28 s29 s30 s31 s32 s33 s34 s35 s36 s37 s38 s39 s40 s41 s42 s43 s44 s45 s46 s47 s48 s49 s50 s51 s52 s53 s54 s55 s56 s57 s58 s59 s60 s61 s62 s63 s64 s65 s66 s67 s68 s69 s70 s71 s72 s73 s74 s75 s76 s77 s78 s79 s80 s81 s82 s83 s84 s85 s86 s87 s88 s89 s90 s91 s92 s93 s94 s95 s96 s97 s98 s99 s100 s101 s102 s103 s104 s105 s106 s107 s108 s109 s110 s111 s112 s113 s114 s115 s116 s117 s118 s119 s120 s121 s122 s123 s124 s125 s126 s127 s128 s129 s130 s131 s132 s133 s134 s135 s136 s137 s138 s139 s140 s141 s142 s143 s144 s145 s146 s147 w := (show s50J2 [s0, s1, s2, s3, s4, s5, s6, s7, s8, s9, s10, s11, s12, s13, s14, s15, s16, s17, s18, s19, s20, s21, s22, s23, s24, s25, s26, s27, s28, s29, s30, s31, s32, s33, s34, s35, s36, s37, s38, s39, s40, s41, s42, s43, s44, s45, s46, s47, s48, s49, s50, s51, s52, s53, s54, s55, s56, s57, s58, s59, s60, s61, s62, s63, s64, s65, s66, s67, s68, s69, s70, s71, s72, s73, s74, s75, s76, s77, s78, s79, s80, s81, s82, s83, s84, s85, s86, s87, s88, s89, s90, s91, s92, s93, s94, s95, s96, s97, s98, s99, s100, s101, s102, s103, s104, s105, s106, s107, s108, s109, s110, s111, s112, s113, s114, s115, s116, s117, s118, s119, s120, s121, s122, s123, s124, s125, s126, s127, s128, s129, s130, s131, s132, s133, s134, s135, s136, s137, s138, s139, s140, s141, s142, s143, s144, s145, s146, s147] [] w = evK Try.prog 50 none (nav [1, 1, 0, 0, 0, 1, 1, 1, 1, 1, 1] (bodyOf Try.f50)) none _ ⟨[s0, s1, s2, s3, s4, s5, s6, s7, s8, s9, s10, s11, s12, s13, s14, s15, s16, s17, s18, s19, s20, s21, s22, s23, s24, s25, s26, s27, s28, s29, s30, s31, s32, s33, s34, s35, s36, s37, s38, s39, s40, s41, s42, s43, s44, s45, s46, s47, s48, s49, s50, s51, s52, s53, s54, s55, s56, s57, s58, s59, s60, s61, s62, s63, s64, s65, s66, s67, s68, s69, s70, s71, s72, s73, s74, s75, s76, s77, s78, s79, s80, s81, s82, s83, s84, s85, s86, s87, s88, s89, s90, s91, s92, s93, s94, s95, s96, s97, s98, s99, s100, s101, s102, s103, s104, s105, s106, s107, s108, s109, s110, s111, s112, s113, s114, s115, s116, s117, s118, s119, s120, s121, s122, s123, s124, s125, s126, s127, s128, s129, s130, s131, s132, s133, s134, s135, s136, s137, s138, s139, s140, s141, s142, s143, s144, s145, s146, s147].toArray, []⟩ w s50K1 from by kernel_rfl).trans (by kernel_rfl)
theorem s50J2of {s0 s1 s2 s3 s4 s5 s6 s7 s8 s9 s10 s11 s12 s13 s14 s15 s16 s17 s18 s19 s20 s21 s22 s23 s24 s25 s26 s27 s28 s29 s30 s31 s32 s33 s34 s35 s36 s37 s38 s39 s40 s41 s42 s43 s44 s45 s46 s47 s48 s49 s50 s51 s52 s53 s54 s55 s56 s57 s58 s59 s60 s61 s62 s63 s64 s65 s66 s67 s68 s69 s70 s71 s72 s73 s74 s75 s76 s77 s78 s79 s80 s81 s82 s83 s84 s85 s86 s87 s88 s89 s90 s91 s92 s93 s94 s95 s96 s97 s98 s99 s100 s101 s102 s103 s104 s105 s106 s107 s108 s109 s110 s111 s112 s113 s114 s115 s116 s117 s118 s119 s120 s121 s122 s123 s124 s125 s126 s127 s128 s129 s130 s131 s132 s133 s134 s135 s136 s137 s138 s139 s140 s141 s142 s143 s144 s145 s146 s147 : Value} {w : World} {r : _} (h : s50M2 s0 s1 s2 s3 s4 s10 s11 s12 s13 s14 w = some r) : s50J2 [s0, s1, s2, s3, s4, s5, s6, s7, s8, s9, s10, s11, s12, s13, s14, s15, s16, s17, s18, s19, s20, s21, s22, s23, s24, s25, s26, s27, s28, s29, s30, s31, s32, s33, s34, s35, s36, s37, s38, s39, s40, s41, s42, s43, s44, s45, s46, s47, s48, s49, s50, s51, s52, s53, s54, s55, s56, s57, s58, s59, s60, s61, s62, s63, s64, s65, s66, s67, s68, s69, s70, s71, s72, s73, s74, s75, s76, s77, s78, s79, s80, s81, s82, s83, s84, s85, s86, s87, s88, s89, s90, s91, s92, s93, s94, s95, s96, s97, s98, s99, s100, s101, s102, s103, s104, s105, s106, s107, s108, s109, s110, s111, s112, s113, s114, s115, s116, s117, s118, s119, s120, s121, s122, s123, s124, s125, s126, s127, s128, s129, s130, s131, s132, s133, s134, s135, s136, s137, s138, s139, s140, s141, s142, s143, s144, s145, s146, s147] [] w = some r :=
  ((s50J2eq s0 s1 s2 s3 s4 s5 s6 s7 s8 s9 s10 s11 s12 s13 s14 s15 s16 s17 s18 s19 s20 s21 s22 s23 s24 s25 s26 s27 s28 s29 s30 s31 s32 s33 s34 s35 s36 s37 s38 s39 s40 s41 s42 s43 s44 s45 s46 s47 s48 s49 s50 s51 s52 s53 s54 s55 s56 s57 s58 s59 s60 s61 s62 s63 s64 s65 s66 s67 s68 s69 s70 s71 s72 s73 s74 s75 s76 s77 s78 s79 s80 s81 s82 s83 s84 s85 s86 s87 s88 s89 s90 s91 s92 s93 s94 s95 s96 s97 s98 s99 s100 s101 s102 s103 s104 s105 s106 s107 s108 s109 s110 s111 s112 s113 s114 s115 s116 s117 s118 s119 s120 s121 s122 s123 s124 s125 s126 s127 s128 s129 s130 s131 s132 s133 s134 s135 s136 s137 s138 s139 s140 s141 s142 s143 s144 s145 s146 s147 w).trans ((Ev.bind_mono fun (v1056 : Value) => (Ev.bind_mono fun (v1057 : Value) => (Ev.bind_mono fun (v1058 : Value) => (condK_mono (Ev.bind_mono fun (r1059 : Value × World) => (condK_mono id (s50J3of))) (s50J3of))))) h))
theorem s50J1eq (s0 s1 s2 s3 s4 s5 s6 s7 s8 s9 s10 s11 s12 s13 s14 s15 s16 s17 s18 s19 s20 s21 s22 s23 s24 s25 s26 s27 s28 s29 s30 s31 s32 s33 s34 s35 s36 s37 s38 s39 s40 s41 s42 s43 s44 s45 s46 s47 s48 s49 s50 s51 s52 s53 s54 s55 s56 s57 s58 s59 s60 s61 s62 s63 s64 s65 s66 s67 s68 s69 s70 s71 s72 s73 s74 s75 s76 s77 s78 s79 s80 s81 s82 s83 s84 s85 s86 s87 s88 s89 s90 s91 s92 s93 s94 s95 s96 s97 s98 s99 s100 s101 s102 s103 s104 s105 s106 s107 s108 s109 s110 s111 s112 s113 s114 s115 s116 s117 s118 s119 s120 s121 s122 s123 s124 s125 s126 s127 s128 s129 s130 s131 s132 s133 s134 s135 s136 s137 s138 s139 s140 s141 s142 s143 s144 s145 s146 s147 : Value) (w : World) : s50J1 [s0, s1, s2, s3, s4, s5, s6, s7, s8, s9, s10, s11, s12, s13, s14, s15, s16, s17, s18, s19, s20, s21, s22, s23, s24, s25, s26, s27, s28, s29, s30, s31, s32, s33, s34, s35, s36, s37, s38, s39, s40, s41, s42, s43, s44, s45, s46, s47, s48, s49, s50, s51, s52, s53, s54, s55, s56, s57, s58, s59, s60, s61, s62, s63, s64, s65, s66, s67, s68, s69, s70, s71, s72, s73, s74, s75, s76, s77, s78, s79, s80, s81, s82, s83, s84, s85, s86, s87, s88, s89, s90, s91, s92, s93, s94, s95, s96, s97, s98, s99, s100, s101, s102, s103, s104, s105, s106, s107, s108, s109, s110, s111, s112, s113, s114, s115, s116, s117, s118, s119, s120, s121, s122, s123, s124, s125, s126, s127, s128, s129, s130, s131, s132, s133, s134, s135, s136, s137, s138, s139, s140, s141, s142, s143, s144, s145, s146, s147] [] w = s50M1raw s0 s1 s2 s3 s4 s5 s6 s7 s8 s9 s10 s11 s12 s13 s14 s15 s16 s17 s18 s19 s20 s21 s22 s23 s24 s25 s26 s27 s28 s29 s30 s31 s32 s33 s34 s35 s36 s37 s38 s39 s40 s41 s42 s43 s44 s45 s46 s47 s48 s49 s50 s51 s52 s53 s54 s55 s56 s57 s58 s59 s60 s61 s62 s63 s64 s65 s66 s67 s68 s69 s70 s71 s72 s73 s74 s75 s76 s77 s78 s79 s80 s81 s82 s83 s84 s85 s86 s87 s88 s89 s90 s91 s92 s93 s94 s95 s96 s97 s98 s99 s100 s101 s102 s103 s104 s105 s106 s107 s108 s109 s110 s111 s112 s113 s114 s115 s116 s117 s118 s119 s120 s121 s122 s123 s124 s125 s126 s127 s128 s129 s130 s131 s132 s133 s134 s135 s136 s137 s138 s139 s140 s141 s142 s143 s144 s145 s146 s147 w := (show s50J1 [s0, s1, s2, s3, s4, s5, s6, s7, s8, s9, s10, s11, s12, s13, s14, s15, s16, s17, s18, s19, s20, s21, s22, s23, s24, s25, s26, s27, s28, s29, s30, s31, s32, s33, s34, s35, s36, s37, s38, s39, s40, s41, s42, s43, s44, s45, s46, s47, s48, s49, s50, s51, s52, s53, s54, s55, s56, s57, s58, s59, s60, s61, s62, s63, s64, s65, s66, s67, s68, s69, s70, s71, s72, s73, s74, s75, s76, s77, s78, s79, s80, s81, s82, s83, s84, s85, s86, s87, s88, s89, s90, s91, s92, s93, s94, s95, s96, s97, s98, s99, s100, s101, s102, s103, s104, s105, s106, s107, s108, s109, s110, s111, s112, s113, s114, s115, s116, s117, s118, s119, s120, s121, s122, s123, s124, s125, s126, s127, s128, s129, s130, s131, s132, s133, s134, s135, s136, s137, s138, s139, s140, s141, s142, s143, s144, s145, s146, s147] [] w = evK Try.prog 50 none (nav [1, 1, 0, 0, 0, 1, 1, 1, 1] (bodyOf Try.f50)) none _ ⟨[s0, s1, s2, s3, s4, s5, s6, s7, s8, s9, s10, s11, s12, s13, s14, s15, s16, s17, s18, s19, s20, s21, s22, s23, s24, s25, s26, s27, s28, s29, s30, s31, s32, s33, s34, s35, s36, s37, s38, s39, s40, s41, s42, s43, s44, s45, s46, s47, s48, s49, s50, s51, s52, s53, s54, s55, s56, s57, s58, s59, s60, s61, s62, s63, s64, s65, s66, s67, s68, s69, s70, s71, s72, s73, s74, s75, s76, s77, s78, s79, s80, s81, s82, s83, s84, s85, s86, s87, s88, s89, s90, s91, s92, s93, s94, s95, s96, s97, s98, s99, s100, s101, s102, s103, s104, s105, s106, s107, s108, s109, s110, s111, s112, s113, s114, s115, s116, s117, s118, s119, s120, s121, s122, s123, s124, s125, s126, s127, s128, s129, s130, s131, s132, s133, s134, s135, s136, s137, s138, s139, s140, s141, s142, s143, s144, s145, s146, s147].toArray, []⟩ w s50K1 from by kernel_rfl).trans (by kernel_rfl)
theorem s50J1of {s0 s1 s2 s3 s4 s5 s6 s7 s8 s9 s10 s11 s12 s13 s14 s15 s16 s17 s18 s19 s20 s21 s22 s23 s24 s25 s26 s27 s28 s29 s30 s31 s32 s33 s34 s35 s36 s37 s38 s39 s40 s41 s42 s43 s44 s45 s46 s47 s48 s49 s50 s51 s52 s53 s54 s55 s56 s57 s58 s59 s60 s61 s62 s63 s64 s65 s66 s67 s68 s69 s70 s71 s72 s73 s74 s75 s76 s77 s78 s79 s80 s81 s82 s83 s84 s85 s86 s87 s88 s89 s90 s91 s92 s93 s94 s95 s96 s97 s98 s99 s100 s101 s102 s103 s104 s105 s106 s107 s108 s109 s110 s111 s112 s113 s114 s115 s116 s117 s118 s119 s120 s121 s122 s123 s124 s125 s126 s127 s128 s129 s130 s131 s132 s133 s134 s135 s136 s137 s138 s139 s140 s141 s142 s143 s144 s145 s146 s147 : Value} {w : World} {r : _} (h : s50M1 s0 s1 s2 s3 s4 s10 s11 s12 w = some r) : s50J1 [s0, s1, s2, s3, s4, s5, s6, s7, s8, s9, s10, s11, s12, s13, s14, s15, s16, s17, s18, s19, s20, s21, s22, s23, s24, s25, s26, s27, s28, s29, s30, s31, s32, s33, s34, s35, s36, s37, s38, s39, s40, s41, s42, s43, s44, s45, s46, s47, s48, s49, s50, s51, s52, s53, s54, s55, s56, s57, s58, s59, s60, s61, s62, s63, s64, s65, s66, s67, s68, s69, s70, s71, s72, s73, s74, s75, s76, s77, s78, s79, s80, s81, s82, s83, s84, s85, s86, s87, s88, s89, s90, s91, s92, s93, s94, s95, s96, s97, s98, s99, s100, s101, s102, s103, s104, s105, s106, s107, s108, s109, s110, s111, s112, s113, s114, s115, s116, s117, s118, s119, s120, s121, s122, s123, s124, s125, s126, s127, s128, s129, s130, s131, s132, s133, s134, s135, s136, s137, s138, s139, s140, s141, s142, s143, s144, s145, s146, s147] [] w = some r :=
  ((s50J1eq s0 s1 s2 s3 s4 s5 s6 s7 s8 s9 s10 s11 s12 s13 s14 s15 s16 s17 s18 s19 s20 s21 s22 s23 s24 s25 s26 s27 s28 s29 s30 s31 s32 s33 s34 s35 s36 s37 s38 s39 s40 s41 s42 s43 s44 s45 s46 s47 s48 s49 s50 s51 s52 s53 s54 s55 s56 s57 s58 s59 s60 s61 s62 s63 s64 s65 s66 s67 s68 s69 s70 s71 s72 s73 s74 s75 s76 s77 s78 s79 s80 s81 s82 s83 s84 s85 s86 s87 s88 s89 s90 s91 s92 s93 s94 s95 s96 s97 s98 s99 s100 s101 s102 s103 s104 s105 s106 s107 s108 s109 s110 s111 s112 s113 s114 s115 s116 s117 s118 s119 s120 s121 s122 s123 s124 s125 s126 s127 s128 s129 s130 s131 s132 s133 s134 s135 s136 s137 s138 s139 s140 s141 s142 s143 s144 s145 s146 s147 w).trans ((Ev.bind_mono fun (r1048 : Value × World) => (Ev.bind_mono fun (v1049 : Value) => (Ev.bind_mono fun (v1050 : Value) => (Ev.bind_mono fun (v1051 : Value) => (condK_mono (Ev.bind_mono fun (r1052 : Value × World) => (Ev.bind_mono fun (v1053 : Value) => (Ev.bind_mono fun (v1054 : Value) => (Ev.bind_mono fun (v1055 : Value) => (s50J2of))))) (s50J2of)))))) h))
theorem s50B0eq (x0 x1 x2 x3 x4 x10 x11 : Value) (w : World) (g : Nat → Value) (d : List Deferred) : evK Try.prog 50 none (nav [1, 1, 0, 0] (bodyOf Try.f50)) none _ (frm 148 (setL [0, 1, 2, 3, 4, 10, 11] [x0, x1, x2, x3, x4, x10, x11] g) d) w (projK [0, 1, 2, 3, 4, 10, 11]) = s50B0raw g d [x0, x1, x2, x3, x4, x10, x11] w := by kernel_rfl
theorem s50R0ret_eq (x0 x1 x2 x3 x4 x10 x11 : Value) (g : Nat → Value) (w : World) : s50K0 Exit.ret (frm 148 (setL [0, 1, 2, 3, 4, 10, 11] [x0, x1, x2, x3, x4, x10, x11] g) []) w = s50R0 Exit.ret [x0, x1, x2, x3, x4, x10, x11] w := by kernel_rfl
theorem s50R0of : ∀ (e : Exit) (xs : List Value) (w : World) (g : Nat → Value) (y : _), s50R0 e xs w = some y → s50K0 e (frm 148 (setL [0, 1, 2, 3, 4, 10, 11] xs g) []) w = some y := by
  intro e xs w g y h
  unfold s50R0 at h
  split at h
  · exact (s50R0ret_eq _ _ _ _ _ _ _ g _).trans h
  · cases h
set_option maxRecDepth 20000 in
theorem s50L0of {s0 s1 s2 s3 s4 s5 s6 s7 s8 s9 s10 s11 s12 s13 s14 s15 s16 s17 s18 s19 s20 s21 s22 s23 s24 s25 s26 s27 s28 s29 s30 s31 s32 s33 s34 s35 s36 s37 s38 s39 s40 s41 s42 s43 s44 s45 s46 s47 s48 s49 s50 s51 s52 s53 s54 s55 s56 s57 s58 s59 s60 s61 s62 s63 s64 s65 s66 s67 s68 s69 s70 s71 s72 s73 s74 s75 s76 s77 s78 s79 s80 s81 s82 s83 s84 s85 s86 s87 s88 s89 s90 s91 s92 s93 s94 s95 s96 s97 s98 s99 s100 s101 s102 s103 s104 s105 s106 s107 s108 s109 s110 s111 s112 s113 s114 s115 s116 s117 s118 s119 s120 s121 s122 s123 s124 s125 s126 s127 s128 s129 s130 s131 s132 s133 s134 s135 s136 s137 s138 s139 s140 s141 s142 s143 s144 s145 s146 s147 : Value} {w : World} {r : _} (h : loopR s50B0 s50R0 [s0, s1, s2, s3, s4, s10, s11] w = some r) : s50L0 [s0, s1, s2, s3, s4, s5, s6, s7, s8, s9, s10, s11, s12, s13, s14, s15, s16, s17, s18, s19, s20, s21, s22, s23, s24, s25, s26, s27, s28, s29, s30, s31, s32, s33, s34, s35, s36, s37, s38, s39, s40, s41, s42, s43, s44, s45, s46, s47, s48, s49, s50, s51, s52, s53, s54, s55, s56, s57, s58, s59, s60, s61, s62, s63, s64, s65, s66, s67, s68, s69, s70, s71, s72, s73, s74, s75, s76, s77, s78, s79, s80, s81, s82, s83, s84, s85, s86, s87, s88, s89, s90, s91, s92, s93, s94, s95, s96, s97, s98, s99, s100, s101, s102, s103, s104, s105, s106, s107, s108, s109, s110, s111, s112, s113, s114, s115, s116, s117, s118, s119, s120, s121, s122, s123, s124, s125, s126, s127, s128, s129, s130, s131, s132, s133, s134, s135, s136, s137, s138, s139, s140, s141, s142, s143, s144, s145, s146, s147] [] w = some r :=
  loopN_of (B := s50B0) (R := s50R0) (n := 148) (live := [0, 1, 2, 3, 4, 10, 11]) (fun xs w g y hl h => match xs, hl, h with | [x0, x1, x2, x3, x4, x10, x11], _, h => (s50B0eq x0 x1 x2 x3 x4 x10 x11 w g []).trans (show s50B0raw g [] [x0, x1, x2, x3, x4, x10, x11] w = some y from (Ev.bind_mono fun (v1040 : Value) => (Ev.bind_mono fun (v1041 : Value) => (condK_mono id (Ev.bind_mono fun (v1043 : Value) => (condK_mono id (Ev.bind_mono fun (v1045 : Value) => (condK_mono (Ev.bind_mono fun (r1046 : Value × World) => (Ev.bind_mono fun (v1047 : Value) => (s50J1of))) (s50J1of)))))))) h)) (by kernel_rfl) (s50R0of) (fun i => ([s0, s1, s2, s3, s4, s5, s6, s7, s8, s9, s10, s11, s12, s13, s14, s15, s16, s17, s18, s19, s20, s21, s22, s23, s24, s25, s26, s27, s28, s29, s30, s31, s32, s33, s34, s35, s36, s37, s38, s39, s40, s41, s42, s43, s44, s45, s46, s47, s48, s49, s50, s51, s52, s53, s54, s55, s56, s57, s58, s59, s60, s61, s62, s63, s64, s65, s66, s67, s68, s69, s70, s71, s72, s73, s74, s75, s76, s77, s78, s79, s80, s81, s82, s83, s84, s85, s86, s87, s88, s89, s90, s91, s92, s93, s94, s95, s96, s97, s98, s99, s100, s101, s102, s103, s104, s105, s106, s107, s108, s109, s110, s111, s112, s113, s114, s115, s116, s117, s118, s119, s120, s121, s122, s123, s124, s125, s126, s127, s128, s129, s130, s131, s132, s133, s134, s135, s136, s137, s138, s139, s140, s141, s142, s143, s144, s145, s146, s147] : List Value).getD i undef) (by kernel_rfl) rfl h
theorem s50eq (x0 x1 x2 x3 x4 : Value) (w : World) : evK Try.prog 50 none (bodyOf Try.f50) none _ { tmps := (([x0, x1, x2, x3, x4] : List Value) ++ List.replicate (148 - 5) undef).toArray, defers := [] } w (leaveK Try.prog Try.f50) = s50raw x0 x1 x2 x3 x4 w := by kernel_rfl
theorem c50 {x0 x1 x2 x3 x4 : Value} {w : World} {r : Value × World} (h : s50 x0 x1 x2 x3 x4 w = some r) : C Try.prog 50 #[x0, x1, x2, x3, x4] w = some r :=
  C_ev follows_all drawLaw (by kernel_rfl) Try.func50 (by rfl) ((s50eq x0 x1 x2 x3 x4 w).trans (show s50raw x0 x1 x2 x3 x4 w = some r from (s50L0of) h))
theorem e50 {x0 x1 x2 x3 x4 : Value} {w : World} {Q : Value × World → Prop} (h : Brings (s50 x0 x1 x2 x3 x4 w) Q) : Brings (Xcall Try.prog (Value.func (Fn.func 50) #[] #[]) #[x0, x1, x2, x3, x4] w) Q :=
  h.call (Xcall_fn Try.func50 (by decide +kernel) (by rfl) _ _ _ w) fun _ h => c50 h

/-! math/bits.Len -/
noncomputable def s51 (x0 : Value) (w : World) : Option (Value × World) :=
  condK (Go.Value.bool false) (
    (Qconv Try.prog 93 35 x0).bind fun v1084 =>
    (Xcall Try.prog (Value.func (Fn.func 68) #[] #[]) #[v1084] w).bind fun r1085 =>
    some (r1085.1, r1085.2)
  ) (
    (Xcall Try.prog (Value.func (Fn.func 69) #[] #[]) #[x0] w).bind fun r1086 =>
    some (r1086.1, r1086.2)
  )
theorem s51eq (x0 : Value) (w : World) : evK Try.prog 51 none (bodyOf Try.f51) none _ { tmps := (([x0] : List Value) ++ List.replicate (8 - 1) undef).toArray, defers := [] } w (leaveK Try.prog Try.f51) = s51 x0 w := by kernel_rfl
theorem c51 {x0 : Value} {w : World} {r : Value × World} (h : s51 x0 w = some r) : C Try.prog 51 #[x0] w = some r :=
  C_ev follows_all drawLaw (by kernel_rfl) Try.func51 (by rfl) ((s51eq x0 w).trans h)
theorem e51 {x0 : Value} {w : World} {Q : Value × World → Prop} (h : Brings (s51 x0 w) Q) : Brings (Xcall Try.prog (Value.func (Fn.func 51) #[] #[]) #[x0] w) Q :=
  h.call (Xcall_fn Try.func51 (by decide +kernel) (by rfl) _ _ _ w) fun _ h => c51 h

/-! cmp.Or[int] -/
noncomputable def s52K0 : Exit → Act → World → Option (Value × World) := seqK (fun a w => evK Try.prog 52 none (nav [1, 1, 1] (bodyOf Try.f52)) none _ a w (leaveK Try.prog Try.f52)) (leaveK Try.prog Try.f52)
noncomputable def s52K1 : Exit → Act → World → Option (Value × World) := blockK 0 s52K0
noncomputable def s52L0 (s : List Value) (d : List Deferred) (w : World) : Option (Value × World) := loopN Try.prog 52 none (nav [1, 1, 0, 1, 0, 0] (bodyOf Try.f52)) s52K1 s d w
noncomputable def s52B0 : List Value → World → Option (Exit × List Value × World)
  | [x2, x3, x6, x7, x8], w =>
    (Qbin Try.prog Go.BinOp.lss 3 x8 x7).bind fun v1088 =>
    condK v1088 (
      (QindexAddr Try.prog 114 x6 x8 w).bind fun v1089 =>
      (Qload Try.prog 3 v1089 w).bind fun v1090 =>
      (Qbin Try.prog Go.BinOp.neq 3 v1090 x3).bind fun v1091 =>
      condK v1091 (
        some (Exit.ret, [v1090, x3, x6, x7, x8], w)
      ) (
        (Qbin Try.prog Go.BinOp.add 3 x8 (Go.Value.int Go.IntKind.i64 1)).bind fun v1092 =>
        some (Exit.normal, [x2, x3, x6, x7, v1092], w)
      )
    ) (
      some ((Exit.exit 0), [x2, x3, x6, x7, x8], w)
    )
  | _, _ => none
noncomputable def s52R0 : Exit → List Value → World → Option (Value × World)
  | (Exit.exit 0), [_, x3, _, _, _], w =>
    some (x3, w)
  | Exit.ret, [x2, _, _, _, _], w =>
    some (x2, w)
  | _, _, _ => none
noncomputable def s52raw (x0 : Value) (w : World) : Option (Value × World) :=
  (Qlen Try.prog #[114] 3 #[x0] w).bind fun v1087 =>
  s52L0 [x0, undef, (Go.Value.int Go.IntKind.i64 0), (Go.Value.int Go.IntKind.i64 0), undef, undef, x0, v1087, (Go.Value.int Go.IntKind.i64 0), undef, undef, undef, undef, undef, undef, undef, undef, undef] [] w
noncomputable def s52 (x0 : Value) (w : World) : Option (Value × World) :=
  (Qlen Try.prog #[114] 3 #[x0] w).bind fun v1087 =>
  loopR s52B0 s52R0 [(Go.Value.int Go.IntKind.i64 0), (Go.Value.int Go.IntKind.i64 0), x0, v1087, (Go.Value.int Go.IntKind.i64 0)] w
theorem s52B0eq (x2 x3 x6 x7 x8 : Value) (w : World) (g : Nat → Value) (d : List Deferred) : evK Try.prog 52 none (nav [1, 1, 0, 1, 0, 0] (bodyOf Try.f52)) none _ (frm 18 (setL [2, 3, 6, 7, 8] [x2, x3, x6, x7, x8] g) d) w (projK [2, 3, 6, 7, 8]) = s52B0 [x2, x3, x6, x7, x8] w := by kernel_rfl
theorem s52R0x0eq (x2 x3 x6 x7 x8 : Value) (g : Nat → Value) (w : World) : s52K1 (Exit.exit 0) (frm 18 (setL [2, 3, 6, 7, 8] [x2, x3, x6, x7, x8] g) []) w = s52R0 (Exit.exit 0) [x2, x3, x6, x7, x8] w := by kernel_rfl
theorem s52R0ret_eq (x2 x3 x6 x7 x8 : Value) (g : Nat → Value) (w : World) : s52K1 Exit.ret (frm 18 (setL [2, 3, 6, 7, 8] [x2, x3, x6, x7, x8] g) []) w = s52R0 Exit.ret [x2, x3, x6, x7, x8] w := by kernel_rfl
theorem s52R0of : ∀ (e : Exit) (xs : List Value) (w : World) (g : Nat → Value) (y : _), s52R0 e xs w = some y → s52K1 e (frm 18 (setL [2, 3, 6, 7, 8] xs g) []) w = some y := by
  intro e xs w g y h
  unfold s52R0 at h
  split at h
  · exact (s52R0x0eq _ _ _ _ _ g _).trans h
  · exact (s52R0ret_eq _ _ _ _ _ g _).trans h
  · cases h
set_option maxRecDepth 20000 in
theorem s52L0of {s0 s1 s2 s3 s4 s5 s6 s7 s8 s9 s10 s11 s12 s13 s14 s15 s16 s17 : Value} {w : World} {r : _} (h : loopR s52B0 s52R0 [s2, s3, s6, s7, s8] w = some r) : s52L0 [s0, s1, s2, s3, s4, s5, s6, s7, s8, s9, s10, s11, s12, s13, s14, s15, s16, s17] [] w = some r :=
  loopN_of (B := s52B0) (R := s52R0) (n := 18) (live := [2, 3, 6, 7, 8]) (fun xs w g y hl h => match xs, hl, h with | [x2, x3, x6, x7, x8], _, h => (s52B0eq x2 x3 x6 x7 x8 w g []).trans h) (by kernel_rfl) (s52R0of) (fun i => ([s0, s1, s2, s3, s4, s5, s6, s7, s8, s9, s10, s11, s12, s13, s14, s15, s16, s17] : List Value).getD i undef) (by kernel_rfl) rfl h
theorem s52eq (x0 : Value) (w : World) : evK Try.prog 52 none (bodyOf Try.f52) none _ { tmps := (([x0] : List Value) ++ List.replicate (18 - 1) undef).toArray, defers := [] } w (leaveK Try.prog Try.f52) = s52raw x0 w := by kernel_rfl
theorem c52 {x0 : Value} {w : World} {r : Value × World} (h : s52 x0 w = some r) : C Try.prog 52 #[x0] w = some r :=
  C_ev follows_all drawLaw (by kernel_rfl) Try.func52 (by rfl) ((s52eq x0 w).trans (show s52raw x0 w = some r from (Ev.bind_mono fun (v1087 : Value) => (s52L0of)) h))
theorem e52 {x0 : Value} {w : World} {Q : Value × World → Prop} (h : Brings (s52 x0 w) Q) : Brings (Xcall Try.prog (Value.func (Fn.func 52) #[] #[]) #[x0] w) Q :=
  h.call (Xcall_fn Try.func52 (by decide +kernel) (by rfl) _ _ _ w) fun _ h => c52 h

/-! cmp.Compare[int] -/
noncomputable def s53 (x0 x1 : Value) (w : World) : Option (Value × World) :=
  (Xcall Try.prog (Value.func (Fn.func 70) #[] #[]) #[x0] w).bind fun r1093 =>
  (Xcall Try.prog (Value.func (Fn.func 70) #[] #[]) #[x1] r1093.2).bind fun r1094 =>
  condK r1093.1 (
    condK r1094.1 (
      some ((Go.Value.int Go.IntKind.i64 0), r1094.2)
    ) (
      some ((Go.Value.int Go.IntKind.i64 (-1)), r1094.2)
    )
  ) (
    condK r1094.1 (
      some ((Go.Value.int Go.IntKind.i64 1), r1094.2)
    ) (
      (Qbin Try.prog Go.BinOp.lss 3 x0 x1).bind fun v1095 =>
      condK v1095 (
        some ((Go.Value.int Go.IntKind.i64 (-1)), r1094.2)
      ) (
        (Qbin Try.prog Go.BinOp.gtr 3 x0 x1).bind fun v1096 =>
        condK v1096 (
          some ((Go.Value.int Go.IntKind.i64 1), r1094.2)
        ) (
          some ((Go.Value.int Go.IntKind.i64 0), r1094.2)
        )
      )
    )
  )
theorem s53eq (x0 x1 : Value) (w : World) : evK Try.prog 53 none (bodyOf Try.f53) none _ { tmps := (([x0, x1] : List Value) ++ List.replicate (20 - 2) undef).toArray, defers := [] } w (leaveK Try.prog Try.f53) = s53 x0 x1 w := by kernel_rfl
theorem c53 {x0 x1 : Value} {w : World} {r : Value × World} (h : s53 x0 x1 w = some r) : C Try.prog 53 #[x0, x1] w = some r :=
  C_ev follows_all drawLaw (by kernel_rfl) Try.func53 (by rfl) ((s53eq x0 x1 w).trans h)
theorem e53 {x0 x1 : Value} {w : World} {Q : Value × World → Prop} (h : Brings (s53 x0 x1 w) Q) : Brings (Xcall Try.prog (Value.func (Fn.func 53) #[] #[]) #[x0, x1] w) Q :=
  h.call (Xcall_fn Try.func53 (by decide +kernel) (by rfl) _ _ _ w) fun _ h => c53 h

/-! slices.IndexFunc[[]lychgate/table.row[lychgate/api.Tuple, int],lychgate/table.row[lychgate/api.Tuple, int]] -/
noncomputable def s54K0 : Exit → Act → World → Option (Value × World) := seqK (fun a w => evK Try.prog 54 none (nav [1, 1] (bodyOf Try.f54)) none _ a w (leaveK Try.prog Try.f54)) (leaveK Try.prog Try.f54)
noncomputable def s54K1 : Exit → Act → World → Option (Value × World) := blockK 0 s54K0
noncomputable def s54L0 (s : List Value) (d : List Deferred) (w : World) : Option (Value × World) := loopN Try.prog 54 none (nav [1, 0, 1, 0, 0] (bodyOf Try.f54)) s54K1 s d w
noncomputable def s54B0 : List Value → World → Option (Exit × List Value × World)
  | [x0, x1, x4, x7, x8], w =>
    (Qbin Try.prog Go.BinOp.lss 3 x8 x7).bind fun v1098 =>
    condK v1098 (
      (QindexAddr Try.prog 62 x0 x8 w).bind fun v1099 =>
      (Qload Try.prog 73 v1099 w).bind fun v1100 =>
      (Xcall Try.prog x1 #[v1100] w).bind fun r1101 =>
      condK r1101.1 (
        some (Exit.ret, [x0, x1, x8, x7, x8], r1101.2)
      ) (
        (Qbin Try.prog Go.BinOp.add 3 x8 (Go.Value.int Go.IntKind.i64 1)).bind fun v1102 =>
        some (Exit.normal, [x0, x1, x4, x7, v1102], r1101.2)
      )
    ) (
      some ((Exit.exit 0), [x0, x1, x4, x7, x8], w)
    )
  | _, _ => none
noncomputable def s54R0 : Exit → List Value → World → Option (Value × World)
  | (Exit.exit 0), [_, _, _, _, _], w =>
    some ((Go.Value.int Go.IntKind.i64 (-1)), w)
  | Exit.ret, [_, _, x4, _, _], w =>
    some (x4, w)
  | _, _, _ => none
noncomputable def s54raw (x0 x1 : Value) (w : World) : Option (Value × World) :=
  (Qlen Try.prog #[62] 3 #[x0] w).bind fun v1097 =>
  s54L0 [x0, x1, undef, undef, (Go.Value.int Go.IntKind.i64 0), undef, x0, v1097, (Go.Value.int Go.IntKind.i64 0), undef, undef, undef, undef, undef, undef, undef, undef, undef, undef] [] w
noncomputable def s54 (x0 x1 : Value) (w : World) : Option (Value × World) :=
  (Qlen Try.prog #[62] 3 #[x0] w).bind fun v1097 =>
  loopR s54B0 s54R0 [x0, x1, (Go.Value.int Go.IntKind.i64 0), v1097, (Go.Value.int Go.IntKind.i64 0)] w
theorem s54B0eq (x0 x1 x4 x7 x8 : Value) (w : World) (g : Nat → Value) (d : List Deferred) : evK Try.prog 54 none (nav [1, 0, 1, 0, 0] (bodyOf Try.f54)) none _ (frm 19 (setL [0, 1, 4, 7, 8] [x0, x1, x4, x7, x8] g) d) w (projK [0, 1, 4, 7, 8]) = s54B0 [x0, x1, x4, x7, x8] w := by kernel_rfl
theorem s54R0x0eq (x0 x1 x4 x7 x8 : Value) (g : Nat → Value) (w : World) : s54K1 (Exit.exit 0) (frm 19 (setL [0, 1, 4, 7, 8] [x0, x1, x4, x7, x8] g) []) w = s54R0 (Exit.exit 0) [x0, x1, x4, x7, x8] w := by kernel_rfl
theorem s54R0ret_eq (x0 x1 x4 x7 x8 : Value) (g : Nat → Value) (w : World) : s54K1 Exit.ret (frm 19 (setL [0, 1, 4, 7, 8] [x0, x1, x4, x7, x8] g) []) w = s54R0 Exit.ret [x0, x1, x4, x7, x8] w := by kernel_rfl
theorem s54R0of : ∀ (e : Exit) (xs : List Value) (w : World) (g : Nat → Value) (y : _), s54R0 e xs w = some y → s54K1 e (frm 19 (setL [0, 1, 4, 7, 8] xs g) []) w = some y := by
  intro e xs w g y h
  unfold s54R0 at h
  split at h
  · exact (s54R0x0eq _ _ _ _ _ g _).trans h
  · exact (s54R0ret_eq _ _ _ _ _ g _).trans h
  · cases h
set_option maxRecDepth 20000 in
theorem s54L0of {s0 s1 s2 s3 s4 s5 s6 s7 s8 s9 s10 s11 s12 s13 s14 s15 s16 s17 s18 : Value} {w : World} {r : _} (h : loopR s54B0 s54R0 [s0, s1, s4, s7, s8] w = some r) : s54L0 [s0, s1, s2, s3, s4, s5, s6, s7, s8, s9, s10, s11, s12, s13, s14, s15, s16, s17, s18] [] w = some r :=
  loopN_of (B := s54B0) (R := s54R0) (n := 19) (live := [0, 1, 4, 7, 8]) (fun xs w g y hl h => match xs, hl, h with | [x0, x1, x4, x7, x8], _, h => (s54B0eq x0 x1 x4 x7 x8 w g []).trans h) (by kernel_rfl) (s54R0of) (fun i => ([s0, s1, s2, s3, s4, s5, s6, s7, s8, s9, s10, s11, s12, s13, s14, s15, s16, s17, s18] : List Value).getD i undef) (by kernel_rfl) rfl h
theorem s54eq (x0 x1 : Value) (w : World) : evK Try.prog 54 none (bodyOf Try.f54) none _ { tmps := (([x0, x1] : List Value) ++ List.replicate (19 - 2) undef).toArray, defers := [] } w (leaveK Try.prog Try.f54) = s54raw x0 x1 w := by kernel_rfl
theorem c54 {x0 x1 : Value} {w : World} {r : Value × World} (h : s54 x0 x1 w = some r) : C Try.prog 54 #[x0, x1] w = some r :=
  C_ev follows_all drawLaw (by kernel_rfl) Try.func54 (by rfl) ((s54eq x0 x1 w).trans (show s54raw x0 x1 w = some r from (Ev.bind_mono fun (v1097 : Value) => (s54L0of)) h))
theorem e54 {x0 x1 : Value} {w : World} {Q : Value × World → Prop} (h : Brings (s54 x0 x1 w) Q) : Brings (Xcall Try.prog (Value.func (Fn.func 54) #[] #[]) #[x0, x1] w) Q :=
  h.call (Xcall_fn Try.func54 (by decide +kernel) (by rfl) _ _ _ w) fun _ h => c54 h

/-! (*lychgate/table.buckets[lychgate/api.Tuple, int]).find$1 -/
noncomputable def s55 (x0 x1 : Value) (w : World) : Option (Value × World) :=
  (Xbox Try.prog 73 x0 w).bind fun r1103 =>
  (QfieldAddr Try.prog 73 r1103.1 0).bind fun v1104 =>
  (Qload Try.prog 37 v1104 r1103.2).bind fun v1105 =>
  (Qload Try.prog 37 x1 r1103.2).bind fun v1106 =>
  (Qbin Try.prog Go.BinOp.eql 37 v1105 v1106).bind fun v1107 =>
  some (v1107, r1103.2)
theorem s55eq (x0 x1 : Value) (w : World) : evK Try.prog 55 none (bodyOf Try.f55) none _ { tmps := (([x0, x1] : List Value) ++ List.replicate (8 - 2) undef).toArray, defers := [] } w (leaveK Try.prog Try.f55) = s55 x0 x1 w := by kernel_rfl
theorem c55 {x0 x1 : Value} {w : World} {r : Value × World} (h : s55 x0 x1 w = some r) : C Try.prog 55 #[x0, x1] w = some r :=
  C_ev follows_all drawLaw (by kernel_rfl) Try.func55 (by rfl) ((s55eq x0 x1 w).trans h)
theorem e55 {x0 x1 : Value} {w : World} {Q : Value × World → Prop} (h : Brings (s55 x0 x1 w) Q) : Brings (Xcall Try.prog (Value.func (Fn.func 55) #[] #[x1]) #[x0] w) Q :=
  h.call (Xcall_fn Try.func55 (by decide +kernel) (by rfl) _ _ _ w) fun _ h => c55 h

/-! (*lychgate/lychgateref06.Table).at -/
noncomputable def s56K0 : Exit → Act → World → Option (Value × World) := seqK (fun a w => evK Try.prog 56 none (nav [1, 1] (bodyOf Try.f56)) none _ a w (leaveK Try.prog Try.f56)) (leaveK Try.prog Try.f56)
noncomputable def s56K1 : Exit → Act → World → Option (Value × World) := blockK 0 s56K0
noncomputable def s56L0 (s : List Value) (d : List Deferred) (w : World) : Option (Value × World) := loopN Try.prog 56 none (nav [1, 0, 1, 0, 0] (bodyOf Try.f56)) s56K1 s d w
noncomputable def s56B0 : List Value → World → Option (Exit × List Value × World)
  | [x0, x3, x4, x5], w =>
    (Qbin Try.prog Go.BinOp.neq 26 x0 (Go.Value.pointer none)).bind fun v1109 =>
    (guardQ v1109 true (Qnil (gv (isB v1109 true) x0))).bind fun v1110 =>
    (guardQ v1109 true (QfieldAddr Try.prog 87 v1110 0)).bind fun v1111 =>
    (guardQ v1109 true (Qload Try.prog 85 v1111 w)).bind fun v1112 =>
    (guardQ v1109 true (Qlen Try.prog #[85] 3 #[v1112] w)).bind fun v1113 =>
    (guardQ v1109 true (Qbin Try.prog Go.BinOp.lss 3 (gv (isB v1109 true) x5) v1113)).bind fun v1114 =>
    (Qpick v1109 v1114 (Go.Value.bool false)).bind fun v1115 =>
    condK v1115 (
      (Qnil x0).bind fun v1116 =>
      (QfieldAddr Try.prog 87 v1116 0).bind fun v1117 =>
      (Qload Try.prog 85 v1117 w.drew).bind fun v1118 =>
      (QindexAddr Try.prog 85 v1118 x5 w.drew).bind fun v1119 =>
      (QfieldAddr Try.prog 99 v1119 0).bind fun v1120 =>
      (Qload Try.prog 37 v1120 w.drew).bind fun v1121 =>
      (Qload Try.prog 37 x3 w.drew).bind fun v1122 =>
      (Xcall Try.prog (Value.func (Fn.func 18) #[] #[]) #[v1122] w.drew).bind fun r1123 =>
      (Qbin Try.prog Go.BinOp.eql 37 v1121 r1123.1).bind fun v1124 =>
      chkK ((Qload Try.prog 85 v1117 w.drew = some v1118 ∧ Qload Try.prog 85 v1117 r1123.2 = some v1118) ∧ ((QindexAddr Try.prog 85 v1118 x5 w.drew = some v1119 ∧ QindexAddr Try.prog 85 v1118 x5 r1123.2 = some v1119) ∧ ((Qload Try.prog 37 v1120 w.drew = some v1121 ∧ Qload Try.prog 37 v1120 r1123.2 = some v1121) ∧ True))) (
        condK v1124 (
          some (Exit.ret, [x0, x3, x5, x5], r1123.2)
        ) (
          (Qbin Try.prog Go.BinOp.add 3 x5 (Go.Value.int Go.IntKind.i64 1)).bind fun v1125 =>
          some (Exit.normal, [x0, x3, x4, v1125], r1123.2)
        )
      )
    ) (
      some ((Exit.exit 0), [x0, x3, x4, x5], w)
    )
  | _, _ => none
noncomputable def s56R0 : Exit → List Value → World → Option (Value × World)
  | (Exit.exit 0), [_, _, _, _], w =>
    some ((Go.Value.int Go.IntKind.i64 (-1)), w)
  | Exit.ret, [_, _, x4, _], w =>
    some (x4, w)
  | _, _, _ => none
noncomputable def s56raw (x0 x1 : Value) (w : World) : Option (Value × World) :=
  (Xbox Try.prog 37 x1 w).bind fun r1108 =>
  s56L0 [x0, x1, undef, r1108.1, (Go.Value.int Go.IntKind.i64 0), (Go.Value.int Go.IntKind.i64 0), undef, undef, undef, undef, undef, undef, undef, undef, undef, undef, undef, undef, undef, undef, undef, undef, undef, undef, undef, undef, undef, undef, undef, undef, undef] [] r1108.2
noncomputable def s56 (x0 x1 : Value) (w : World) : Option (Value × World) :=
  (Xbox Try.prog 37 x1 w).bind fun r1108 =>
  loopR s56B0 s56R0 [x0, r1108.1, (Go.Value.int Go.IntKind.i64 0), (Go.Value.int Go.IntKind.i64 0)] r1108.2
theorem s56B0eq (x0 x3 x4 x5 : Value) (w : World) (g : Nat → Value) (d : List Deferred) : evK Try.prog 56 none (nav [1, 0, 1, 0, 0] (bodyOf Try.f56)) none _ (frm 31 (setL [0, 3, 4, 5] [x0, x3, x4, x5] g) d) w (projK [0, 3, 4, 5]) = s56B0 [x0, x3, x4, x5] w := by kernel_rfl
theorem s56R0x0eq (x0 x3 x4 x5 : Value) (g : Nat → Value) (w : World) : s56K1 (Exit.exit 0) (frm 31 (setL [0, 3, 4, 5] [x0, x3, x4, x5] g) []) w = s56R0 (Exit.exit 0) [x0, x3, x4, x5] w := by kernel_rfl
theorem s56R0ret_eq (x0 x3 x4 x5 : Value) (g : Nat → Value) (w : World) : s56K1 Exit.ret (frm 31 (setL [0, 3, 4, 5] [x0, x3, x4, x5] g) []) w = s56R0 Exit.ret [x0, x3, x4, x5] w := by kernel_rfl
theorem s56R0of : ∀ (e : Exit) (xs : List Value) (w : World) (g : Nat → Value) (y : _), s56R0 e xs w = some y → s56K1 e (frm 31 (setL [0, 3, 4, 5] xs g) []) w = some y := by
  intro e xs w g y h
  unfold s56R0 at h
  split at h
  · exact (s56R0x0eq _ _ _ _ g _).trans h
  · exact (s56R0ret_eq _ _ _ _ g _).trans h
  · cases h
set_option maxRecDepth 20000 in
theorem s56L0of {s0 s1 s2 s3 s4 s5 s6 s7 s8 s9 s10 s11 s12 s13 s14 s15 s16 s17 s18 s19 s20 s21 s22 s23 s24 s25 s26 s27 s28 s29 s30 : Value} {w : World} {r : _} (h : loopR s56B0 s56R0 [s0, s3, s4, s5] w = some r) : s56L0 [s0, s1, s2, s3, s4, s5, s6, s7, s8, s9, s10, s11, s12, s13, s14, s15, s16, s17, s18, s19, s20, s21, s22, s23, s24, s25, s26, s27, s28, s29, s30] [] w = some r :=
  loopN_of (B := s56B0) (R := s56R0) (n := 31) (live := [0, 3, 4, 5]) (fun xs w g y hl h => match xs, hl, h with | [x0, x3, x4, x5], _, h => (s56B0eq x0 x3 x4 x5 w g []).trans h) (by kernel_rfl) (s56R0of) (fun i => ([s0, s1, s2, s3, s4, s5, s6, s7, s8, s9, s10, s11, s12, s13, s14, s15, s16, s17, s18, s19, s20, s21, s22, s23, s24, s25, s26, s27, s28, s29, s30] : List Value).getD i undef) (by kernel_rfl) rfl h
theorem s56eq (x0 x1 : Value) (w : World) : evK Try.prog 56 none (bodyOf Try.f56) none _ { tmps := (([x0, x1] : List Value) ++ List.replicate (31 - 2) undef).toArray, defers := [] } w (leaveK Try.prog Try.f56) = s56raw x0 x1 w := by kernel_rfl
theorem c56 {x0 x1 : Value} {w : World} {r : Value × World} (h : s56 x0 x1 w = some r) : C Try.prog 56 #[x0, x1] w = some r :=
  C_ev follows_all drawLaw (by kernel_rfl) Try.func56 (by rfl) ((s56eq x0 x1 w).trans (show s56raw x0 x1 w = some r from (Ev.bind_mono fun (r1108 : Value × World) => (s56L0of)) h))
theorem e56 {x0 x1 : Value} {w : World} {Q : Value × World → Prop} (h : Brings (s56 x0 x1 w) Q) : Brings (Xcall Try.prog (Value.func (Fn.func 56) #[] #[]) #[x0, x1] w) Q :=
  h.call (Xcall_fn Try.func56 (by decide +kernel) (by rfl) _ _ _ w) fun _ h => c56 h

/-! (*lychgate/lychgateref06.Table).ordered -/
noncomputable def s57K0 : Exit → Act → World → Option (Value × World) := seqK (fun a w => evK Try.prog 57 none (nav [1, 1, 1] (bodyOf Try.f57)) none _ a w (leaveK Try.prog Try.f57)) (leaveK Try.prog Try.f57)
noncomputable def s57K1 : Exit → Act → World → Option (Value × World) := blockK 0 s57K0
noncomputable def s57L0 (s : List Value) (d : List Deferred) (w : World) : Option (Value × World) := loopN Try.prog 57 none (nav [1, 1, 0, 1, 0, 0] (bodyOf Try.f57)) s57K1 s d w
noncomputable def s57K2 : Exit → Act → World → Option (Exit × List Value × World) := seqK (fun a w => evK Try.prog 57 none (nav [1, 1, 0, 1, 0, 0, 1, 1] (bodyOf Try.f57)) none _ a w (projK [0, 3, 4])) (projK [0, 3, 4])
noncomputable def s57K3 : Exit → Act → World → Option (Exit × List Value × World) := blockK 1 s57K2
noncomputable def s57K4 : Exit → Act → World → Option (Exit × List Value × World) := seqK (fun a w => evK Try.prog 57 none (nav [1, 1, 0, 1, 0, 0, 1, 0, 0, 1, 1, 1, 1] (bodyOf Try.f57)) none _ a w s57K3) s57K3
noncomputable def s57K5 : Exit → Act → World → Option (Exit × List Value × World) := blockK 2 s57K4
noncomputable def s57L1 (s : List Value) (d : List Deferred) (w : World) : Option (Exit × List Value × World) := loopN Try.prog 57 none (nav [1, 1, 0, 1, 0, 0, 1, 0, 0, 1, 1, 1, 0, 1, 0, 0] (bodyOf Try.f57)) s57K5 s d w
noncomputable def s57K6 : Exit → Act → World → Option (Exit × List Value × World) := seqK (fun a w => evK Try.prog 57 none (nav [1, 1, 0, 1, 0, 0, 1, 0, 0, 1, 1, 1, 0, 1, 0, 0, 1, 1] (bodyOf Try.f57)) none _ a w (projK [0, 3, 4, 5, 6, 7, 8])) (projK [0, 3, 4, 5, 6, 7, 8])
noncomputable def s57K7 : Exit → Act → World → Option (Exit × List Value × World) := blockK 3 s57K6
noncomputable def s57K8 : Exit → Act → World → Option (Exit × List Value × World) := seqK (fun a w => evK Try.prog 57 none (nav [1, 1, 0, 1, 0, 0, 1, 0, 0, 1, 1, 1, 0, 1, 0, 0, 1, 0, 0, 1, 1] (bodyOf Try.f57)) none _ a w s57K7) s57K7
noncomputable def s57J2 (s : List Value) (d : List Deferred) (w : World) : Option (Exit × List Value × World) := s57K8 .normal ⟨s.toArray, d⟩ w
noncomputable def s57M2 (s0 s3 s4 s5 s6 s7 s8 s9 : Value) (w : World) : Option (Exit × List Value × World) :=
  (Qload Try.prog 99 s9 w).bind fun v1174 =>
  (XbuildSlice Try.prog 85 1 #[(0, v1174)] w).bind fun r1175 =>
  (Xbi Try.prog Go.Builtin.append #[85, 85] 85 #[s6, r1175.1] r1175.2).bind fun r1176 =>
  (Qbin Try.prog Go.BinOp.add 3 s8 (Go.Value.int Go.IntKind.i64 1)).bind fun v1177 =>
  some (Exit.normal, [s0, s3, s4, s5, r1176.1, s7, v1177], r1176.2)
noncomputable def s57B1raw (g : Nat → Value) (d : List Deferred) : List Value → World → Option (Exit × List Value × World)
  | [x0, x3, x4, x5, x6, x7, x8], w =>
    (Qlen Try.prog #[85] 3 #[x3] w).bind fun v1140 =>
    (Qbin Try.prog Go.BinOp.lss 3 x8 v1140).bind fun v1141 =>
    condK v1141 (
      (QindexAddr Try.prog 85 x3 x8 w).bind fun v1142 =>
      (Qload Try.prog 99 v1142 w).bind fun v1143 =>
      (Xalloc Try.prog 99 w).bind fun r1144 =>
      (Xstore Try.prog 99 r1144.1 v1143 r1144.2).bind fun r1145 =>
      (Qun Go.UnOp.not x7).bind fun v1146 =>
      (guardQ v1146 true (QfieldAddr Try.prog 99 x5 2)).bind fun v1147 =>
      (guardQ v1146 true (Qload Try.prog 3 v1147 r1145.2)).bind fun v1148 =>
      (guardQ v1146 true (QfieldAddr Try.prog 99 r1144.1 2)).bind fun v1149 =>
      (guardQ v1146 true (Qload Try.prog 3 v1149 r1145.2)).bind fun v1150 =>
      (guardQ v1146 true (Qbin Try.prog Go.BinOp.lss 3 v1148 v1150)).bind fun v1151 =>
      (guardQ (gv (isB v1146 true) v1151) false (QfieldAddr Try.prog 99 x5 2)).bind fun v1152 =>
      (guardQ (gv (isB v1146 true) v1151) false (Qload Try.prog 3 v1152 r1145.2)).bind fun v1153 =>
      (guardQ (gv (isB v1146 true) v1151) false (QfieldAddr Try.prog 99 r1144.1 2)).bind fun v1154 =>
      (guardQ (gv (isB v1146 true) v1151) false (Qload Try.prog 3 v1154 r1145.2)).bind fun v1155 =>
      (guardQ (gv (isB v1146 true) v1151) false (Qbin Try.prog Go.BinOp.eql 3 v1153 v1155)).bind fun v1156 =>
      (guardQ (gv (isB (gv (isB v1146 true) v1151) false) v1156) true (QfieldAddr Try.prog 99 x5 3)).bind fun v1157 =>
      (guardQ (gv (isB (gv (isB v1146 true) v1151) false) v1156) true (Qload Try.prog 3 v1157 r1145.2)).bind fun v1158 =>
      (guardQ (gv (isB (gv (isB v1146 true) v1151) false) v1156) true (QfieldAddr Try.prog 99 r1144.1 3)).bind fun v1159 =>
      (guardQ (gv (isB (gv (isB v1146 true) v1151) false) v1156) true (Qload Try.prog 3 v1159 r1145.2)).bind fun v1160 =>
      (guardQ (gv (isB (gv (isB v1146 true) v1151) false) v1156) true (Qbin Try.prog Go.BinOp.lss 3 v1158 v1160)).bind fun v1161 =>
      (guardQ (gv (isB v1146 true) v1151) false (Qpick (gv (isB (gv (isB v1146 true) v1151) false) v1156) v1161 (Go.Value.bool false))).bind fun v1162 =>
      (guardQ v1146 true (Qpick (gv (isB v1146 true) v1151) (Go.Value.bool true) v1162)).bind fun v1163 =>
      (Qpick v1146 v1163 (Go.Value.bool false)).bind fun v1164 =>
      condK v1164 (
        (Qload Try.prog 99 x5 r1145.2).bind fun v1165 =>
        (XbuildSlice Try.prog 85 1 #[(0, v1165)] r1145.2).bind fun r1166 =>
        (Xbi Try.prog Go.Builtin.append #[85, 85] 85 #[x6, r1166.1] r1166.2).bind fun r1167 =>
        s57J2 [x0, (g 1), (g 2), x3, x4, x5, r1167.1, (Go.Value.bool true), x8, r1144.1, (g 10), (g 11), (g 12), (g 13), (g 14), (g 15), (g 16), (g 17), (g 18), (g 19), (g 20), (g 21), (g 22), (g 23), (g 24), (g 25), (g 26), (g 27), (g 28), (g 29), x8, x3, v1140, v1141, (g 34), (g 35), x3, x8, v1142, v1143, x7, v1146, v1146, v1147, v1148, v1149, v1150, v1151, (gv (isB v1146 true) v1151), v1152, v1153, v1154, v1155, v1156, (gv (isB (gv (isB v1146 true) v1151) false) v1156), v1157, v1158, v1159, v1160, v1161, v1162, v1163, v1164, x6, v1165, r1166.1, r1167.1, (g 67), (g 68), (g 69), (g 70), (g 71), (g 72), (g 73), (g 74), (g 75), (g 76), (g 77), (g 78)] d r1167.2
      ) (
        s57J2 [x0, (g 1), (g 2), x3, x4, x5, x6, x7, x8, r1144.1, (g 10), (g 11), (g 12), (g 13), (g 14), (g 15), (g 16), (g 17), (g 18), (g 19), (g 20), (g 21), (g 22), (g 23), (g 24), (g 25), (g 26), (g 27), (g 28), (g 29), x8, x3, v1140, v1141, (g 34), (g 35), x3, x8, v1142, v1143, x7, v1146, v1146, v1147, v1148, v1149, v1150, v1151, (gv (isB v1146 true) v1151), v1152, v1153, v1154, v1155, v1156, (gv (isB (gv (isB v1146 true) v1151) false) v1156), v1157, v1158, v1159, v1160, v1161, v1162, v1163, v1164, (g 63), (g 64), (g 65), (g 66), (g 67), (g 68), (g 69), (g 70), (g 71), (g 72), (g 73), (g 74), (g 75), (g 76), (g 77), (g 78)] d r1145.2
      )
    ) (
      some ((Exit.exit 2), [x0, x3, x4, x5, x6, x7, x8], w)
    )
  | _, _ => none
noncomputable def s57B1 : List Value → World → Option (Exit × List Value × World)
  | [x0, x3, x4, x5, x6, x7, x8], w =>
    (Qlen Try.prog #[85] 3 #[x3] w).bind fun v1140 =>
    (Qbin Try.prog Go.BinOp.lss 3 x8 v1140).bind fun v1141 =>
    condK v1141 (
      (QindexAddr Try.prog 85 x3 x8 w).bind fun v1142 =>
      (Qload Try.prog 99 v1142 w).bind fun v1143 =>
      (Xalloc Try.prog 99 w).bind fun r1144 =>
      (Xstore Try.prog 99 r1144.1 v1143 r1144.2).bind fun r1145 =>
      (Qun Go.UnOp.not x7).bind fun v1146 =>
      (guardQ v1146 true (QfieldAddr Try.prog 99 x5 2)).bind fun v1147 =>
      (guardQ v1146 true (Qload Try.prog 3 v1147 r1145.2)).bind fun v1148 =>
      (guardQ v1146 true (QfieldAddr Try.prog 99 r1144.1 2)).bind fun v1149 =>
      (guardQ v1146 true (Qload Try.prog 3 v1149 r1145.2)).bind fun v1150 =>
      (guardQ v1146 true (Qbin Try.prog Go.BinOp.lss 3 v1148 v1150)).bind fun v1151 =>
      (guardQ (gv (isB v1146 true) v1151) false (QfieldAddr Try.prog 99 x5 2)).bind fun v1152 =>
      (guardQ (gv (isB v1146 true) v1151) false (Qload Try.prog 3 v1152 r1145.2)).bind fun v1153 =>
      (guardQ (gv (isB v1146 true) v1151) false (QfieldAddr Try.prog 99 r1144.1 2)).bind fun v1154 =>
      (guardQ (gv (isB v1146 true) v1151) false (Qload Try.prog 3 v1154 r1145.2)).bind fun v1155 =>
      (guardQ (gv (isB v1146 true) v1151) false (Qbin Try.prog Go.BinOp.eql 3 v1153 v1155)).bind fun v1156 =>
      (guardQ (gv (isB (gv (isB v1146 true) v1151) false) v1156) true (QfieldAddr Try.prog 99 x5 3)).bind fun v1157 =>
      (guardQ (gv (isB (gv (isB v1146 true) v1151) false) v1156) true (Qload Try.prog 3 v1157 r1145.2)).bind fun v1158 =>
      (guardQ (gv (isB (gv (isB v1146 true) v1151) false) v1156) true (QfieldAddr Try.prog 99 r1144.1 3)).bind fun v1159 =>
      (guardQ (gv (isB (gv (isB v1146 true) v1151) false) v1156) true (Qload Try.prog 3 v1159 r1145.2)).bind fun v1160 =>
      (guardQ (gv (isB (gv (isB v1146 true) v1151) false) v1156) true (Qbin Try.prog Go.BinOp.lss 3 v1158 v1160)).bind fun v1161 =>
      (guardQ (gv (isB v1146 true) v1151) false (Qpick (gv (isB (gv (isB v1146 true) v1151) false) v1156) v1161 (Go.Value.bool false))).bind fun v1162 =>
      (guardQ v1146 true (Qpick (gv (isB v1146 true) v1151) (Go.Value.bool true) v1162)).bind fun v1163 =>
      (Qpick v1146 v1163 (Go.Value.bool false)).bind fun v1164 =>
      condK v1164 (
        (Qload Try.prog 99 x5 r1145.2).bind fun v1165 =>
        (XbuildSlice Try.prog 85 1 #[(0, v1165)] r1145.2).bind fun r1166 =>
        (Xbi Try.prog Go.Builtin.append #[85, 85] 85 #[x6, r1166.1] r1166.2).bind fun r1167 =>
        s57M2 x0 x3 x4 x5 r1167.1 (Go.Value.bool true) x8 r1144.1 r1167.2
      ) (
        s57M2 x0 x3 x4 x5 x6 x7 x8 r1144.1 r1145.2
      )
    ) (
      some ((Exit.exit 2), [x0, x3, x4, x5, x6, x7, x8], w)
    )
  | _, _ => none
noncomputable def s57R1 : Exit → List Value → World → Option (Exit × List Value × World)
  | (Exit.exit 2), [x0, _, x4, x5, x6, x7, _], w =>
    (Qun Go.UnOp.not x7).bind fun v1168 =>
    condK v1168 (
      (Qload Try.prog 99 x5 w).bind fun v1169 =>
      (XbuildSlice Try.prog 85 1 #[(0, v1169)] w).bind fun r1170 =>
      (Xbi Try.prog Go.Builtin.append #[85, 85] 85 #[x6, r1170.1] r1170.2).bind fun r1171 =>
      (Qbin Try.prog Go.BinOp.add 3 x4 (Go.Value.int Go.IntKind.i64 1)).bind fun v1172 =>
      some (Exit.normal, [x0, r1171.1, v1172], r1171.2)
    ) (
      (Qbin Try.prog Go.BinOp.add 3 x4 (Go.Value.int Go.IntKind.i64 1)).bind fun v1173 =>
      some (Exit.normal, [x0, x6, v1173], w)
    )
  | _, _, _ => none
noncomputable def s57B0raw (g : Nat → Value) (d : List Deferred) : List Value → World → Option (Exit × List Value × World)
  | [x0, x3, x4], w =>
    (Qbin Try.prog Go.BinOp.neq 26 x0 (Go.Value.pointer none)).bind fun v1126 =>
    (guardQ v1126 true (Qnil (gv (isB v1126 true) x0))).bind fun v1127 =>
    (guardQ v1126 true (QfieldAddr Try.prog 87 v1127 0)).bind fun v1128 =>
    (guardQ v1126 true (Qload Try.prog 85 v1128 w)).bind fun v1129 =>
    (guardQ v1126 true (Qlen Try.prog #[85] 3 #[v1129] w)).bind fun v1130 =>
    (guardQ v1126 true (Qbin Try.prog Go.BinOp.lss 3 (gv (isB v1126 true) x4) v1130)).bind fun v1131 =>
    (Qpick v1126 v1131 (Go.Value.bool false)).bind fun v1132 =>
    condK v1132 (
      (Qnil x0).bind fun v1133 =>
      (QfieldAddr Try.prog 87 v1133 0).bind fun v1134 =>
      (Qload Try.prog 85 v1134 w).bind fun v1135 =>
      (QindexAddr Try.prog 85 v1135 x4 w).bind fun v1136 =>
      (Qload Try.prog 99 v1136 w).bind fun v1137 =>
      (Xalloc Try.prog 99 w).bind fun r1138 =>
      (Xstore Try.prog 99 r1138.1 v1137 r1138.2).bind fun r1139 =>
      s57L1 [x0, (g 1), (g 2), x3, x4, r1138.1, (Go.Value.slice none 0 0), (Go.Value.bool false), (Go.Value.int Go.IntKind.i64 0), (g 9), x0, v1126, v1126, (gv (isB v1126 true) x4), (gv (isB v1126 true) x0), v1127, v1128, v1129, v1130, v1131, v1132, (g 21), (g 22), x0, v1133, v1134, v1135, x4, v1136, v1137, (g 30), (g 31), (g 32), (g 33), (g 34), (g 35), (g 36), (g 37), (g 38), (g 39), (g 40), (g 41), (g 42), (g 43), (g 44), (g 45), (g 46), (g 47), (g 48), (g 49), (g 50), (g 51), (g 52), (g 53), (g 54), (g 55), (g 56), (g 57), (g 58), (g 59), (g 60), (g 61), (g 62), (g 63), (g 64), (g 65), (g 66), (g 67), (g 68), (g 69), (g 70), (g 71), (g 72), (g 73), (g 74), (g 75), (g 76), (g 77), (g 78)] d r1139.2
    ) (
      some ((Exit.exit 0), [x0, x3, x4], w)
    )
  | _, _ => none
noncomputable def s57B0 : List Value → World → Option (Exit × List Value × World)
  | [x0, x3, x4], w =>
    (Qbin Try.prog Go.BinOp.neq 26 x0 (Go.Value.pointer none)).bind fun v1126 =>
    (guardQ v1126 true (Qnil (gv (isB v1126 true) x0))).bind fun v1127 =>
    (guardQ v1126 true (QfieldAddr Try.prog 87 v1127 0)).bind fun v1128 =>
    (guardQ v1126 true (Qload Try.prog 85 v1128 w)).bind fun v1129 =>
    (guardQ v1126 true (Qlen Try.prog #[85] 3 #[v1129] w)).bind fun v1130 =>
    (guardQ v1126 true (Qbin Try.prog Go.BinOp.lss 3 (gv (isB v1126 true) x4) v1130)).bind fun v1131 =>
    (Qpick v1126 v1131 (Go.Value.bool false)).bind fun v1132 =>
    condK v1132 (
      (Qnil x0).bind fun v1133 =>
      (QfieldAddr Try.prog 87 v1133 0).bind fun v1134 =>
      (Qload Try.prog 85 v1134 w).bind fun v1135 =>
      (QindexAddr Try.prog 85 v1135 x4 w).bind fun v1136 =>
      (Qload Try.prog 99 v1136 w).bind fun v1137 =>
      (Xalloc Try.prog 99 w).bind fun r1138 =>
      (Xstore Try.prog 99 r1138.1 v1137 r1138.2).bind fun r1139 =>
      loopR s57B1 s57R1 [x0, x3, x4, r1138.1, (Go.Value.slice none 0 0), (Go.Value.bool false), (Go.Value.int Go.IntKind.i64 0)] r1139.2
    ) (
      some ((Exit.exit 0), [x0, x3, x4], w)
    )
  | _, _ => none
noncomputable def s57R0 : Exit → List Value → World → Option (Value × World)
  | (Exit.exit 0), [_, x3, _], w =>
    some (x3, w)
  | _, _, _ => none
noncomputable def s57raw (x0 : Value) (w : World) : Option (Value × World) :=
  s57L0 [x0, undef, (Go.Value.slice none 0 0), (Go.Value.slice none 0 0), (Go.Value.int Go.IntKind.i64 0), undef, undef, undef, undef, undef, undef, undef, undef, undef, undef, undef, undef, undef, undef, undef, undef, undef, undef, undef, undef, undef, undef, undef, undef, undef, undef, undef, undef, undef, undef, undef, undef, undef, undef, undef, undef, undef, undef, undef, undef, undef, undef, undef, undef, undef, undef, undef, undef, undef, undef, undef, undef, undef, undef, undef, undef, undef, undef, undef, undef, undef, undef, undef, undef, undef, undef, undef, undef, undef, undef, undef, undef, undef, undef] [] w
noncomputable def s57 (x0 : Value) (w : World) : Option (Value × World) :=
  loopR s57B0 s57R0 [x0, (Go.Value.slice none 0 0), (Go.Value.int Go.IntKind.i64 0)] w
theorem s57J2eq (s0 s1 s2 s3 s4 s5 s6 s7 s8 s9 s10 s11 s12 s13 s14 s15 s16 s17 s18 s19 s20 s21 s22 s23 s24 s25 s26 s27 s28 s29 s30 s31 s32 s33 s34 s35 s36 s37 s38 s39 s40 s41 s42 s43 s44 s45 s46 s47 s48 s49 s50 s51 s52 s53 s54 s55 s56 s57 s58 s59 s60 s61 s62 s63 s64 s65 s66 s67 s68 s69 s70 s71 s72 s73 s74 s75 s76 s77 s78 : Value) (w : World) : s57J2 [s0, s1, s2, s3, s4, s5, s6, s7, s8, s9, s10, s11, s12, s13, s14, s15, s16, s17, s18, s19, s20, s21, s22, s23, s24, s25, s26, s27, s28, s29, s30, s31, s32, s33, s34, s35, s36, s37, s38, s39, s40, s41, s42, s43, s44, s45, s46, s47, s48, s49, s50, s51, s52, s53, s54, s55, s56, s57, s58, s59, s60, s61, s62, s63, s64, s65, s66, s67, s68, s69, s70, s71, s72, s73, s74, s75, s76, s77, s78] [] w = s57M2 s0 s3 s4 s5 s6 s7 s8 s9 w := (show s57J2 [s0, s1, s2, s3, s4, s5, s6, s7, s8, s9, s10, s11, s12, s13, s14, s15, s16, s17, s18, s19, s20, s21, s22, s23, s24, s25, s26, s27, s28, s29, s30, s31, s32, s33, s34, s35, s36, s37, s38, s39, s40, s41, s42, s43, s44, s45, s46, s47, s48, s49, s50, s51, s52, s53, s54, s55, s56, s57, s58, s59, s60, s61, s62, s63, s64, s65, s66, s67, s68, s69, s70, s71, s72, s73, s74, s75, s76, s77, s78] [] w = evK Try.prog 57 none (nav [1, 1, 0, 1, 0, 0, 1, 0, 0, 1, 1, 1, 0, 1, 0, 0, 1, 0, 0, 1, 1] (bodyOf Try.f57)) none _ ⟨[s0, s1, s2, s3, s4, s5, s6, s7, s8, s9, s10, s11, s12, s13, s14, s15, s16, s17, s18, s19, s20, s21, s22, s23, s24, s25, s26, s27, s28, s29, s30, s31, s32, s33, s34, s35, s36, s37, s38, s39, s40, s41, s42, s43, s44, s45, s46, s47, s48, s49, s50, s51, s52, s53, s54, s55, s56, s57, s58, s59, s60, s61, s62, s63, s64, s65, s66, s67, s68, s69, s70, s71, s72, s73, s74, s75, s76, s77, s78].toArray, []⟩ w s57K7 from by kernel_rfl).trans (by kernel_rfl)
theorem s57J2of {s0 s1 s2 s3 s4 s5 s6 s7 s8 s9 s10 s11 s12 s13 s14 s15 s16 s17 s18 s19 s20 s21 s22 s23 s24 s25 s26 s27 s28 s29 s30 s31 s32 s33 s34 s35 s36 s37 s38 s39 s40 s41 s42 s43 s44 s45 s46 s47 s48 s49 s50 s51 s52 s53 s54 s55 s56 s57 s58 s59 s60 s61 s62 s63 s64 s65 s66 s67 s68 s69 s70 s71 s72 s73 s74 s75 s76 s77 s78 : Value} {w : World} {r : _} (h : s57M2 s0 s3 s4 s5 s6 s7 s8 s9 w = some r) : s57J2 [s0, s1, s2, s3, s4, s5, s6, s7, s8, s9, s10, s11, s12, s13, s14, s15, s16, s17, s18, s19, s20, s21, s22, s23, s24, s25, s26, s27, s28, s29, s30, s31, s32, s33, s34, s35, s36, s37, s38, s39, s40, s41, s42, s43, s44, s45, s46, s47, s48, s49, s50, s51, s52, s53, s54, s55, s56, s57, s58, s59, s60, s61, s62, s63, s64, s65, s66, s67, s68, s69, s70, s71, s72, s73, s74, s75, s76, s77, s78] [] w = some r :=
  ((s57J2eq s0 s1 s2 s3 s4 s5 s6 s7 s8 s9 s10 s11 s12 s13 s14 s15 s16 s17 s18 s19 s20 s21 s22 s23 s24 s25 s26 s27 s28 s29 s30 s31 s32 s33 s34 s35 s36 s37 s38 s39 s40 s41 s42 s43 s44 s45 s46 s47 s48 s49 s50 s51 s52 s53 s54 s55 s56 s57 s58 s59 s60 s61 s62 s63 s64 s65 s66 s67 s68 s69 s70 s71 s72 s73 s74 s75 s76 s77 s78 w).trans h)
theorem s57B1eq (x0 x3 x4 x5 x6 x7 x8 : Value) (w : World) (g : Nat → Value) (d : List Deferred) : evK Try.prog 57 none (nav [1, 1, 0, 1, 0, 0, 1, 0, 0, 1, 1, 1, 0, 1, 0, 0] (bodyOf Try.f57)) none _ (frm 79 (setL [0, 3, 4, 5, 6, 7, 8] [x0, x3, x4, x5, x6, x7, x8] g) d) w (projK [0, 3, 4, 5, 6, 7, 8]) = s57B1raw g d [x0, x3, x4, x5, x6, x7, x8] w := by kernel_rfl
theorem s57R1x2eq (x0 x3 x4 x5 x6 x7 x8 : Value) (g : Nat → Value) (w : World) : s57K5 (Exit.exit 2) (frm 79 (setL [0, 3, 4, 5, 6, 7, 8] [x0, x3, x4, x5, x6, x7, x8] g) []) w = s57R1 (Exit.exit 2) [x0, x3, x4, x5, x6, x7, x8] w := by kernel_rfl
theorem s57R1of : ∀ (e : Exit) (xs : List Value) (w : World) (g : Nat → Value) (y : _), s57R1 e xs w = some y → s57K5 e (frm 79 (setL [0, 3, 4, 5, 6, 7, 8] xs g) []) w = some y := by
  intro e xs w g y h
  unfold s57R1 at h
  split at h
  · exact (s57R1x2eq _ _ _ _ _ _ _ g _).trans h
  · cases h
set_option maxRecDepth 20000 in
theorem s57L1of {s0 s1 s2 s3 s4 s5 s6 s7 s8 s9 s10 s11 s12 s13 s14 s15 s16 s17 s18 s19 s20 s21 s22 s23 s24 s25 s26 s27 s28 s29 s30 s31 s32 s33 s34 s35 s36 s37 s38 s39 s40 s41 s42 s43 s44 s45 s46 s47 s48 s49 s50 s51 s52 s53 s54 s55 s56 s57 s58 s59 s60 s61 s62 s63 s64 s65 s66 s67 s68 s69 s70 s71 s72 s73 s74 s75 s76 s77 s78 : Value} {w : World} {r : _} (h : loopR s57B1 s57R1 [s0, s3, s4, s5, s6, s7, s8] w = some r) : s57L1 [s0, s1, s2, s3, s4, s5, s6, s7, s8, s9, s10, s11, s12, s13, s14, s15, s16, s17, s18, s19, s20, s21, s22, s23, s24, s25, s26, s27, s28, s29, s30, s31, s32, s33, s34, s35, s36, s37, s38, s39, s40, s41, s42, s43, s44, s45, s46, s47, s48, s49, s50, s51, s52, s53, s54, s55, s56, s57, s58, s59, s60, s61, s62, s63, s64, s65, s66, s67, s68, s69, s70, s71, s72, s73, s74, s75, s76, s77, s78] [] w = some r :=
  loopN_of (B := s57B1) (R := s57R1) (n := 79) (live := [0, 3, 4, 5, 6, 7, 8]) (fun xs w g y hl h => match xs, hl, h with | [x0, x3, x4, x5, x6, x7, x8], _, h => (s57B1eq x0 x3 x4 x5 x6 x7 x8 w g []).trans (show s57B1raw g [] [x0, x3, x4, x5, x6, x7, x8] w = some y from (Ev.bind_mono fun (v1140 : Value) => (Ev.bind_mono fun (v1141 : Value) => (condK_mono (Ev.bind_mono fun (v1142 : Value) => (Ev.bind_mono fun (v1143 : Value) => (Ev.bind_mono fun (r1144 : Value × World) => (Ev.bind_mono fun (r1145 : Value × World) => (Ev.bind_mono fun (v1146 : Value) => (Ev.bind_mono fun (v1147 : Value) => (Ev.bind_mono fun (v1148 : Value) => (Ev.bind_mono fun (v1149 : Value) => (Ev.bind_mono fun (v1150 : Value) => (Ev.bind_mono fun (v1151 : Value) => (Ev.bind_mono fun (v1152 : Value) => (Ev.bind_mono fun (v1153 : Value) => (Ev.bind_mono fun (v1154 : Value) => (Ev.bind_mono fun (v1155 : Value) => (Ev.bind_mono fun (v1156 : Value) => (Ev.bind_mono fun (v1157 : Value) => (Ev.bind_mono fun (v1158 : Value) => (Ev.bind_mono fun (v1159 : Value) => (Ev.bind_mono fun (v1160 : Value) => (Ev.bind_mono fun (v1161 : Value) => (Ev.bind_mono fun (v1162 : Value) => (Ev.bind_mono fun (v1163 : Value) => (Ev.bind_mono fun (v1164 : Value) => (condK_mono (Ev.bind_mono fun (v1165 : Value) => (Ev.bind_mono fun (r1166 : Value × World) => (Ev.bind_mono fun (r1167 : Value × World) => (s57J2of)))) (s57J2of))))))))))))))))))))))))) id))) h)) (by kernel_rfl) (s57R1of) (fun i => ([s0, s1, s2, s3, s4, s5, s6, s7, s8, s9, s10, s11, s12, s13, s14, s15, s16, s17, s18, s19, s20, s21, s22, s23, s24, s25, s26, s27, s28, s29, s30, s31, s32, s33, s34, s35, s36, s37, s38, s39, s40, s41, s42, s43, s44, s45, s46, s47, s48, s49, s50, s51, s52, s53, s54, s55, s56, s57, s58, s59, s60, s61, s62, s63, s64, s65, s66, s67, s68, s69, s70, s71, s72, s73, s74, s75, s76, s77, s78] : List Value).getD i undef) (by kernel_rfl) rfl h
theorem s57B0eq (x0 x3 x4 : Value) (w : World) (g : Nat → Value) (d : List Deferred) : evK Try.prog 57 none (nav [1, 1, 0, 1, 0, 0] (bodyOf Try.f57)) none _ (frm 79 (setL [0, 3, 4] [x0, x3, x4] g) d) w (projK [0, 3, 4]) = s57B0raw g d [x0, x3, x4] w := by kernel_rfl
theorem s57R0x0eq (x0 x3 x4 : Value) (g : Nat → Value) (w : World) : s57K1 (Exit.exit 0) (frm 79 (setL [0, 3, 4] [x0, x3, x4] g) []) w = s57R0 (Exit.exit 0) [x0, x3, x4] w := by kernel_rfl
theorem s57R0of : ∀ (e : Exit) (xs : List Value) (w : World) (g : Nat → Value) (y : _), s57R0 e xs w = some y → s57K1 e (frm 79 (setL [0, 3, 4] xs g) []) w = some y := by
  intro e xs w g y h
  unfold s57R0 at h
  split at h
  · exact (s57R0x0eq _ _ _ g _).trans h
  · cases h
set_option maxRecDepth 20000 in
theorem s57L0of {s0 s1 s2 s3 s4 s5 s6 s7 s8 s9 s10 s11 s12 s13 s14 s15 s16 s17 s18 s19 s20 s21 s22 s23 s24 s25 s26 s27 s28 s29 s30 s31 s32 s33 s34 s35 s36 s37 s38 s39 s40 s41 s42 s43 s44 s45 s46 s47 s48 s49 s50 s51 s52 s53 s54 s55 s56 s57 s58 s59 s60 s61 s62 s63 s64 s65 s66 s67 s68 s69 s70 s71 s72 s73 s74 s75 s76 s77 s78 : Value} {w : World} {r : _} (h : loopR s57B0 s57R0 [s0, s3, s4] w = some r) : s57L0 [s0, s1, s2, s3, s4, s5, s6, s7, s8, s9, s10, s11, s12, s13, s14, s15, s16, s17, s18, s19, s20, s21, s22, s23, s24, s25, s26, s27, s28, s29, s30, s31, s32, s33, s34, s35, s36, s37, s38, s39, s40, s41, s42, s43, s44, s45, s46, s47, s48, s49, s50, s51, s52, s53, s54, s55, s56, s57, s58, s59, s60, s61, s62, s63, s64, s65, s66, s67, s68, s69, s70, s71, s72, s73, s74, s75, s76, s77, s78] [] w = some r :=
  loopN_of (B := s57B0) (R := s57R0) (n := 79) (live := [0, 3, 4]) (fun xs w g y hl h => match xs, hl, h with | [x0, x3, x4], _, h => (s57B0eq x0 x3 x4 w g []).trans (show s57B0raw g [] [x0, x3, x4] w = some y from (Ev.bind_mono fun (v1126 : Value) => (Ev.bind_mono fun (v1127 : Value) => (Ev.bind_mono fun (v1128 : Value) => (Ev.bind_mono fun (v1129 : Value) => (Ev.bind_mono fun (v1130 : Value) => (Ev.bind_mono fun (v1131 : Value) => (Ev.bind_mono fun (v1132 : Value) => (condK_mono (Ev.bind_mono fun (v1133 : Value) => (Ev.bind_mono fun (v1134 : Value) => (Ev.bind_mono fun (v1135 : Value) => (Ev.bind_mono fun (v1136 : Value) => (Ev.bind_mono fun (v1137 : Value) => (Ev.bind_mono fun (r1138 : Value × World) => (Ev.bind_mono fun (r1139 : Value × World) => (s57L1of)))))))) id)))))))) h)) (by kernel_rfl) (s57R0of) (fun i => ([s0, s1, s2, s3, s4, s5, s6, s7, s8, s9, s10, s11, s12, s13, s14, s15, s16, s17, s18, s19, s20, s21, s22, s23, s24, s25, s26, s27, s28, s29, s30, s31, s32, s33, s34, s35, s36, s37, s38, s39, s40, s41, s42, s43, s44, s45, s46, s47, s48, s49, s50, s51, s52, s53, s54, s55, s56, s57, s58, s59, s60, s61, s62, s63, s64, s65, s66, s67, s68, s69, s70, s71, s72, s73, s74, s75, s76, s77, s78] : List Value).getD i undef) (by kernel_rfl) rfl h
theorem s57eq (x0 : Value) (w : World) : evK Try.prog 57 none (bodyOf Try.f57) none _ { tmps := (([x0] : List Value) ++ List.replicate (79 - 1) undef).toArray, defers := [] } w (leaveK Try.prog Try.f57) = s57raw x0 w := by kernel_rfl
theorem c57 {x0 : Value} {w : World} {r : Value × World} (h : s57 x0 w = some r) : C Try.prog 57 #[x0] w = some r :=
  C_ev follows_all drawLaw (by kernel_rfl) Try.func57 (by rfl) ((s57eq x0 w).trans (show s57raw x0 w = some r from (s57L0of) h))
theorem e57 {x0 : Value} {w : World} {Q : Value × World → Prop} (h : Brings (s57 x0 w) Q) : Brings (Xcall Try.prog (Value.func (Fn.func 57) #[] #[]) #[x0] w) Q :=
  h.call (Xcall_fn Try.func57 (by decide +kernel) (by rfl) _ _ _ w) fun _ h => c57 h

/-! slices.AppendSeq[[]lychgate/table.row[lychgate/api.Tuple, int],lychgate/table.row[lychgate/api.Tuple, int]] -/
noncomputable def s58K0 : Exit → Act → World → Option (Value × World) := seqK (fun a w => evK Try.prog 58 none (nav [1, 1] (bodyOf Try.f58)) none _ a w (leaveK Try.prog Try.f58)) (leaveK Try.prog Try.f58)
noncomputable def s58K1 : Exit → Act → World → Option (Value × World) := blockK 0 s58K0
noncomputable def s58G0R (s2 : Value) (d : List Deferred) (w : World) : Exit → Option (Value × World)
  | Exit.normal =>
    (Qload Try.prog 62 s2 w).bind fun v1179 =>
    (takeAll Try.prog d w).bind fun w_ => some (v1179, w_)
  | _ => none
noncomputable def s58G0Q (l : Nat) (s2 s7 : Value) (w : World) : Option (Value × World) :=
  (Xalloc Try.prog 73 w).bind fun r1180 =>
  (Xstore Try.prog 73 r1180.1 s7 r1180.2).bind fun r1181 =>
  begK Try.prog l r1181.2 fun w1182 =>
  (Qload Try.prog 62 s2 w1182).bind fun v1183 =>
  (Qload Try.prog 73 r1180.1 w1182).bind fun v1184 =>
  (XbuildSlice Try.prog 62 1 #[(0, v1184)] w1182).bind fun r1185 =>
  (Xbi Try.prog Go.Builtin.append #[62, 62] 62 #[v1183, r1185.1] r1185.2).bind fun r1186 =>
  (Xstore Try.prog 62 s2 r1186.1 r1186.2).bind fun r1187 =>
  endR Try.prog l none r1187.2
noncomputable def s58raw (x0 x1 : Value) (w : World) : Option (Value × World) :=
  (Xbox Try.prog 62 x0 w).bind fun r1178 =>
  (evRange Try.prog 58 none x1 #[7] (nav [1, 0, 1, 0, 0] (bodyOf Try.f58)) (nav [1, 0, 1, 0, 1] (bodyOf Try.f58)) ⟨[x0, x1, r1178.1, undef, (Go.Value.slice none 0 0), undef, x1, undef, undef, undef, undef, undef, undef].toArray, []⟩ r1178.2).bind fun x => s58K1 x.1 x.2.1 x.2.2
noncomputable def s58 (x0 x1 : Value) (w : World) : Option (Value × World) :=
  (Xbox Try.prog 62 x0 w).bind fun r1178 =>
  (evRange Try.prog 58 none x1 #[7] (nav [1, 0, 1, 0, 0] (bodyOf Try.f58)) (nav [1, 0, 1, 0, 1] (bodyOf Try.f58)) ⟨[x0, x1, r1178.1, undef, (Go.Value.slice none 0 0), undef, x1, undef, undef, undef, undef, undef, undef].toArray, []⟩ r1178.2).bind fun x => s58G0R r1178.1 x.2.1.defers x.2.2 x.1
theorem s58G0Rnrmeq (s0 s1 s2 s3 s4 s5 s6 s7 s8 s9 s10 s11 s12 : Value) (d : List Deferred) (w : World) : s58K1 Exit.normal ⟨[s0, s1, s2, s3, s4, s5, s6, s7, s8, s9, s10, s11, s12].toArray, d⟩ w = s58G0R s2 d w Exit.normal := by kernel_rfl
theorem s58G0Rof {s0 s1 s2 s3 s4 s5 s6 s7 s8 s9 s10 s11 s12 : Value} {d : List Deferred} {w : World} {e : Exit} {y : _} (h : s58G0R s2 d w e = some y) : s58K1 e ⟨[s0, s1, s2, s3, s4, s5, s6, s7, s8, s9, s10, s11, s12].toArray, d⟩ w = some y := by
  unfold s58G0R at h
  split at h
  · exact (s58G0Rnrmeq _ _ _ _ _ _ _ _ _ _ _ _ _ _ _).trans h
  · cases h
theorem s58G0Qeq (l : Nat) (s0 s1 s2 s3 s4 s5 s6 s7 s8 s9 s10 s11 s12 : Value) (w : World) : roundE Try.prog l 58 [s0, s1, s2, s3, s4, s5, s6, s7, s8, s9, s10, s11, s12].toArray (nav [1, 0, 1, 0, 0] (bodyOf Try.f58)) (nav [1, 0, 1, 0, 1] (bodyOf Try.f58)) w = s58G0Q l s2 s7 w := by kernel_rfl
theorem s58G0Qof {l : Nat} {s0 s1 s2 s3 s4 s5 s6 s7 s8 s9 s10 s11 s12 : Value} {w : World} {r : Value × World} (h : s58G0Q l s2 s7 w = some r) : Rd Try.prog l 58 [s0, s1, s2, s3, s4, s5, s6, s7, s8, s9, s10, s11, s12].toArray (nav [1, 0, 1, 0, 0] (bodyOf Try.f58)) (nav [1, 0, 1, 0, 1] (bodyOf Try.f58)) w = some r :=
  Rd_ev follows_all drawLaw (by kernel_rfl) ((s58G0Qeq l s0 s1 s2 s3 s4 s5 s6 s7 s8 s9 s10 s11 s12 w).trans h)
theorem s58G0Qb {l : Nat} {s0 s1 s2 s3 s4 s5 s6 s7 s8 s9 s10 s11 s12 : Value} {w : World} {Q : Value × World → Prop} (h : Brings (s58G0Q l s2 s7 w) Q) : Brings (Rd Try.prog l 58 [s0, s1, s2, s3, s4, s5, s6, s7, s8, s9, s10, s11, s12].toArray (nav [1, 0, 1, 0, 0] (bodyOf Try.f58)) (nav [1, 0, 1, 0, 1] (bodyOf Try.f58)) w) Q := h.of_eq fun _ h => s58G0Qof h
theorem s58eq (x0 x1 : Value) (w : World) : evK Try.prog 58 none (bodyOf Try.f58) none _ { tmps := (([x0, x1] : List Value) ++ List.replicate (13 - 2) undef).toArray, defers := [] } w (leaveK Try.prog Try.f58) = s58raw x0 x1 w := by kernel_rfl
theorem c58 {x0 x1 : Value} {w : World} {r : Value × World} (h : s58 x0 x1 w = some r) : C Try.prog 58 #[x0, x1] w = some r :=
  C_ev follows_all drawLaw (by kernel_rfl) Try.func58 (by rfl) ((s58eq x0 x1 w).trans (show s58raw x0 x1 w = some r from (Ev.bind_mono fun (r1178 : Value × World) => (range_of (R := fun e d w => s58G0R r1178.1 d w e) (fun e d w y h => s58G0Rof h))) h))
theorem e58 {x0 x1 : Value} {w : World} {Q : Value × World → Prop} (h : Brings (s58 x0 x1 w) Q) : Brings (Xcall Try.prog (Value.func (Fn.func 58) #[] #[]) #[x0, x1] w) Q :=
  h.call (Xcall_fn Try.func58 (by decide +kernel) (by rfl) _ _ _ w) fun _ h => c58 h

/-! lychgate/tuple.Hash$1 -/
noncomputable def s59K0 : Exit → Act → World → Option (Value × World) := blockK 0 (leaveK Try.prog Try.f59)
noncomputable def s59L0 (s : List Value) (d : List Deferred) (w : World) : Option (Value × World) := loopN Try.prog 59 none (nav [0, 0] (bodyOf Try.f59)) s59K0 s d w
noncomputable def s59B0 : List Value → World → Option (Exit × List Value × World)
  | [x0, x1, x2], w =>
    (Qbin Try.prog Go.BinOp.gtr 3 x1 (Go.Value.int Go.IntKind.i64 0)).bind fun v1188 =>
    condK v1188 (
      (Qload Try.prog 35 x2 w.drew).bind fun v1189 =>
      (Qbin Try.prog Go.BinOp.sub 3 x1 (Go.Value.int Go.IntKind.i64 1)).bind fun v1190 =>
      (Qbin Try.prog Go.BinOp.mul 3 (Go.Value.int Go.IntKind.i64 8) v1190).bind fun v1191 =>
      (Qbin Try.prog Go.BinOp.shr 102 x0 v1191).bind fun v1192 =>
      (Qconv Try.prog 102 5 v1192).bind fun v1193 =>
      (Qconv Try.prog 5 35 v1193).bind fun v1194 =>
      (Qbin Try.prog Go.BinOp.xor 35 v1189 v1194).bind fun v1195 =>
      (Qbin Try.prog Go.BinOp.mul 35 v1195 (Go.Value.int Go.IntKind.u32 16777619)).bind fun v1196 =>
      (Xstore Try.prog 35 x2 v1196 w.drew).bind fun r1197 =>
      chkK True (
        (Qbin Try.prog Go.BinOp.sub 3 x1 (Go.Value.int Go.IntKind.i64 1)).bind fun v1198 =>
        some (Exit.normal, [x0, v1198, x2], r1197.2)
      )
    ) (
      some ((Exit.exit 0), [x0, x1, x2], w)
    )
  | _, _ => none
noncomputable def s59R0 : Exit → List Value → World → Option (Value × World)
  | (Exit.exit 0), [_, _, _], w =>
    some ((Value.tuple #[]), w)
  | _, _, _ => none
noncomputable def s59raw (x0 x1 x2 : Value) (w : World) : Option (Value × World) :=
  s59L0 [x0, x1, x2, undef, undef, undef, undef, undef, undef, undef, undef, undef, undef, undef, undef, undef, undef, undef, undef] [] w
noncomputable def s59 (x0 x1 x2 : Value) (w : World) : Option (Value × World) :=
  loopR s59B0 s59R0 [x0, x1, x2] w
theorem s59B0eq (x0 x1 x2 : Value) (w : World) (g : Nat → Value) (d : List Deferred) : evK Try.prog 59 none (nav [0, 0] (bodyOf Try.f59)) none _ (frm 19 (setL [0, 1, 2] [x0, x1, x2] g) d) w (projK [0, 1, 2]) = s59B0 [x0, x1, x2] w := by kernel_rfl
theorem s59R0x0eq (x0 x1 x2 : Value) (g : Nat → Value) (w : World) : s59K0 (Exit.exit 0) (frm 19 (setL [0, 1, 2] [x0, x1, x2] g) []) w = s59R0 (Exit.exit 0) [x0, x1, x2] w := by kernel_rfl
theorem s59R0of : ∀ (e : Exit) (xs : List Value) (w : World) (g : Nat → Value) (y : _), s59R0 e xs w = some y → s59K0 e (frm 19 (setL [0, 1, 2] xs g) []) w = some y := by
  intro e xs w g y h
  unfold s59R0 at h
  split at h
  · exact (s59R0x0eq _ _ _ g _).trans h
  · cases h
set_option maxRecDepth 20000 in
theorem s59L0of {s0 s1 s2 s3 s4 s5 s6 s7 s8 s9 s10 s11 s12 s13 s14 s15 s16 s17 s18 : Value} {w : World} {r : _} (h : loopR s59B0 s59R0 [s0, s1, s2] w = some r) : s59L0 [s0, s1, s2, s3, s4, s5, s6, s7, s8, s9, s10, s11, s12, s13, s14, s15, s16, s17, s18] [] w = some r :=
  loopN_of (B := s59B0) (R := s59R0) (n := 19) (live := [0, 1, 2]) (fun xs w g y hl h => match xs, hl, h with | [x0, x1, x2], _, h => (s59B0eq x0 x1 x2 w g []).trans h) (by kernel_rfl) (s59R0of) (fun i => ([s0, s1, s2, s3, s4, s5, s6, s7, s8, s9, s10, s11, s12, s13, s14, s15, s16, s17, s18] : List Value).getD i undef) (by kernel_rfl) rfl h
theorem s59eq (x0 x1 x2 : Value) (w : World) : evK Try.prog 59 none (bodyOf Try.f59) none _ { tmps := (([x0, x1, x2] : List Value) ++ List.replicate (19 - 3) undef).toArray, defers := [] } w (leaveK Try.prog Try.f59) = s59raw x0 x1 x2 w := by kernel_rfl
theorem c59 {x0 x1 x2 : Value} {w : World} {r : Value × World} (h : s59 x0 x1 x2 w = some r) : C Try.prog 59 #[x0, x1, x2] w = some r :=
  C_ev follows_all drawLaw (by kernel_rfl) Try.func59 (by rfl) ((s59eq x0 x1 x2 w).trans (show s59raw x0 x1 x2 w = some r from (s59L0of) h))
theorem e59 {x0 x1 x2 : Value} {w : World} {Q : Value × World → Prop} (h : Brings (s59 x0 x1 x2 w) Q) : Brings (Xcall Try.prog (Value.func (Fn.func 59) #[] #[x2]) #[x0, x1] w) Q :=
  h.call (Xcall_fn Try.func59 (by decide +kernel) (by rfl) _ _ _ w) fun _ h => c59 h

/-! slices.insertionSortCmpFunc[lychgate/table.row[lychgate/api.Tuple, int]] -/
noncomputable def s60K0 : Exit → Act → World → Option (Value × World) := blockK 0 (leaveK Try.prog Try.f60)
noncomputable def s60L0 (s : List Value) (d : List Deferred) (w : World) : Option (Value × World) := loopN Try.prog 60 none (nav [1, 0, 0] (bodyOf Try.f60)) s60K0 s d w
noncomputable def s60K1 : Exit → Act → World → Option (Exit × List Value × World) := seqK (fun a w => evK Try.prog 60 none (nav [1, 0, 0, 1, 1] (bodyOf Try.f60)) none _ a w (projK [0, 1, 2, 3, 8])) (projK [0, 1, 2, 3, 8])
noncomputable def s60K2 : Exit → Act → World → Option (Exit × List Value × World) := blockK 1 s60K1
noncomputable def s60K3 : Exit → Act → World → Option (Exit × List Value × World) := blockK 2 s60K2
noncomputable def s60L1 (s : List Value) (d : List Deferred) (w : World) : Option (Exit × List Value × World) := loopN Try.prog 60 none (nav [1, 0, 0, 1, 0, 0, 1, 0, 0] (bodyOf Try.f60)) s60K3 s d w
noncomputable def s60B1 : List Value → World → Option (Exit × List Value × World)
  | [x0, x1, x2, x3, x8, x9], w =>
    (Qbin Try.prog Go.BinOp.gtr 3 x9 x1).bind fun v1201 =>
    (guardQ v1201 true (QindexAddr Try.prog 62 (gv (isB v1201 true) x0) (gv (isB v1201 true) x9) w.drew)).bind fun v1202 =>
    (guardQ v1201 true (Qload Try.prog 73 v1202 w.drew)).bind fun v1203 =>
    (guardQ v1201 true (Qbin Try.prog Go.BinOp.sub 3 (gv (isB v1201 true) x9) (Go.Value.int Go.IntKind.i64 1))).bind fun v1204 =>
    (guardQ v1201 true (QindexAddr Try.prog 62 (gv (isB v1201 true) x0) v1204 w.drew)).bind fun v1205 =>
    (guardQ v1201 true (Qload Try.prog 73 v1205 w.drew)).bind fun v1206 =>
    (guardX v1201 true w.drew (Xcall Try.prog (gv (isB v1201 true) x3) #[v1203, v1206] w.drew)).bind fun r1207 =>
    (guardQ v1201 true (Qbin Try.prog Go.BinOp.lss 3 r1207.1 (Go.Value.int Go.IntKind.i64 0))).bind fun v1208 =>
    (Qpick v1201 v1208 (Go.Value.bool false)).bind fun v1209 =>
    chkK True (
      condK v1209 (
        (Qbin Try.prog Go.BinOp.sub 3 x9 (Go.Value.int Go.IntKind.i64 1)).bind fun v1210 =>
        (Qbin Try.prog Go.BinOp.sub 3 x9 (Go.Value.int Go.IntKind.i64 1)).bind fun v1211 =>
        (QindexAddr Try.prog 62 x0 v1211 r1207.2.drew).bind fun v1212 =>
        (Qload Try.prog 73 v1212 r1207.2.drew).bind fun v1213 =>
        (QindexAddr Try.prog 62 x0 x9 r1207.2.drew).bind fun v1214 =>
        (Qload Try.prog 73 v1214 r1207.2.drew).bind fun v1215 =>
        (QindexAddr Try.prog 62 x0 x9 r1207.2.drew).bind fun v1216 =>
        (Xstore Try.prog 73 v1216 v1213 r1207.2.drew).bind fun r1217 =>
        (QindexAddr Try.prog 62 x0 v1210 r1217.2).bind fun v1218 =>
        (Xstore Try.prog 73 v1218 v1215 r1217.2).bind fun r1219 =>
        chkK True (
          (Qbin Try.prog Go.BinOp.sub 3 x9 (Go.Value.int Go.IntKind.i64 1)).bind fun v1220 =>
          some (Exit.normal, [x0, x1, x2, x3, x8, v1220], r1219.2)
        )
      ) (
        some ((Exit.exit 2), [x0, x1, x2, x3, x8, x9], r1207.2)
      )
    )
  | _, _ => none
noncomputable def s60R1 : Exit → List Value → World → Option (Exit × List Value × World)
  | (Exit.exit 2), [x0, x1, x2, x3, x8, _], w =>
    (Qbin Try.prog Go.BinOp.add 3 x8 (Go.Value.int Go.IntKind.i64 1)).bind fun v1221 =>
    some (Exit.normal, [x0, x1, x2, x3, v1221], w)
  | _, _, _ => none
noncomputable def s60B0raw (g : Nat → Value) (d : List Deferred) : List Value → World → Option (Exit × List Value × World)
  | [x0, x1, x2, x3, x8], w =>
    (Qbin Try.prog Go.BinOp.lss 3 x8 x2).bind fun v1200 =>
    condK v1200 (
      s60L1 [x0, x1, x2, x3, (g 4), (g 5), (g 6), (g 7), x8, x8, (g 10), (g 11), x8, x2, v1200, (g 15), (g 16), x8, (g 18), (g 19), (g 20), (g 21), (g 22), (g 23), (g 24), (g 25), (g 26), (g 27), (g 28), (g 29), (g 30), (g 31), (g 32), (g 33), (g 34), (g 35), (g 36), (g 37), (g 38), (g 39), (g 40), (g 41), (g 42), (g 43), (g 44), (g 45), (g 46), (g 47), (g 48), (g 49), (g 50), (g 51), (g 52)] d w
    ) (
      some ((Exit.exit 0), [x0, x1, x2, x3, x8], w)
    )
  | _, _ => none
noncomputable def s60B0 : List Value → World → Option (Exit × List Value × World)
  | [x0, x1, x2, x3, x8], w =>
    (Qbin Try.prog Go.BinOp.lss 3 x8 x2).bind fun v1200 =>
    condK v1200 (
      loopR s60B1 s60R1 [x0, x1, x2, x3, x8, x8] w
    ) (
      some ((Exit.exit 0), [x0, x1, x2, x3, x8], w)
    )
  | _, _ => none
noncomputable def s60R0 : Exit → List Value → World → Option (Value × World)
  | (Exit.exit 0), [_, _, _, _, _], w =>
    some ((Value.tuple #[]), w)
  | _, _, _ => none
noncomputable def s60raw (x0 x1 x2 x3 : Value) (w : World) : Option (Value × World) :=
  (Qbin Try.prog Go.BinOp.add 3 x1 (Go.Value.int Go.IntKind.i64 1)).bind fun v1199 =>
  s60L0 [x0, x1, x2, x3, undef, undef, undef, undef, v1199, undef, x1, v1199, undef, undef, undef, undef, undef, undef, undef, undef, undef, undef, undef, undef, undef, undef, undef, undef, undef, undef, undef, undef, undef, undef, undef, undef, undef, undef, undef, undef, undef, undef, undef, undef, undef, undef, undef, undef, undef, undef, undef, undef, undef] [] w
noncomputable def s60 (x0 x1 x2 x3 : Value) (w : World) : Option (Value × World) :=
  (Qbin Try.prog Go.BinOp.add 3 x1 (Go.Value.int Go.IntKind.i64 1)).bind fun v1199 =>
  loopR s60B0 s60R0 [x0, x1, x2, x3, v1199] w
theorem s60B1eq (x0 x1 x2 x3 x8 x9 : Value) (w : World) (g : Nat → Value) (d : List Deferred) : evK Try.prog 60 none (nav [1, 0, 0, 1, 0, 0, 1, 0, 0] (bodyOf Try.f60)) none _ (frm 53 (setL [0, 1, 2, 3, 8, 9] [x0, x1, x2, x3, x8, x9] g) d) w (projK [0, 1, 2, 3, 8, 9]) = s60B1 [x0, x1, x2, x3, x8, x9] w := by kernel_rfl
theorem s60R1x2eq (x0 x1 x2 x3 x8 x9 : Value) (g : Nat → Value) (w : World) : s60K3 (Exit.exit 2) (frm 53 (setL [0, 1, 2, 3, 8, 9] [x0, x1, x2, x3, x8, x9] g) []) w = s60R1 (Exit.exit 2) [x0, x1, x2, x3, x8, x9] w := by kernel_rfl
theorem s60R1of : ∀ (e : Exit) (xs : List Value) (w : World) (g : Nat → Value) (y : _), s60R1 e xs w = some y → s60K3 e (frm 53 (setL [0, 1, 2, 3, 8, 9] xs g) []) w = some y := by
  intro e xs w g y h
  unfold s60R1 at h
  split at h
  · exact (s60R1x2eq _ _ _ _ _ _ g _).trans h
  · cases h
set_option maxRecDepth 20000 in
theorem s60L1of {s0 s1 s2 s3 s4 s5 s6 s7 s8 s9 s10 s11 s12 s13 s14 s15 s16 s17 s18 s19 s20 s21 s22 s23 s24 s25 s26 s27 s28 s29 s30 s31 s32 s33 s34 s35 s36 s37 s38 s39 s40 s41 s42 s43 s44 s45 s46 s47 s48 s49 s50 s51 s52 : Value} {w : World} {r : _} (h : loopR s60B1 s60R1 [s0, s1, s2, s3, s8, s9] w = some r) : s60L1 [s0, s1, s2, s3, s4, s5, s6, s7, s8, s9, s10, s11, s12, s13, s14, s15, s16, s17, s18, s19, s20, s21, s22, s23, s24, s25, s26, s27, s28, s29, s30, s31, s32, s33, s34, s35, s36, s37, s38, s39, s40, s41, s42, s43, s44, s45, s46, s47, s48, s49, s50, s51, s52] [] w = some r :=
  loopN_of (B := s60B1) (R := s60R1) (n := 53) (live := [0, 1, 2, 3, 8, 9]) (fun xs w g y hl h => match xs, hl, h with | [x0, x1, x2, x3, x8, x9], _, h => (s60B1eq x0 x1 x2 x3 x8 x9 w g []).trans h) (by kernel_rfl) (s60R1of) (fun i => ([s0, s1, s2, s3, s4, s5, s6, s7, s8, s9, s10, s11, s12, s13, s14, s15, s16, s17, s18, s19, s20, s21, s22, s23, s24, s25, s26, s27, s28, s29, s30, s31, s32, s33, s34, s35, s36, s37, s38, s39, s40, s41, s42, s43, s44, s45, s46, s47, s48, s49, s50, s51, s52] : List Value).getD i undef) (by kernel_rfl) rfl h
theorem s60B0eq (x0 x1 x2 x3 x8 : Value) (w : World) (g : Nat → Value) (d : List Deferred) : evK Try.prog 60 none (nav [1, 0, 0] (bodyOf Try.f60)) none _ (frm 53 (setL [0, 1, 2, 3, 8] [x0, x1, x2, x3, x8] g) d) w (projK [0, 1, 2, 3, 8]) = s60B0raw g d [x0, x1, x2, x3, x8] w := by kernel_rfl
theorem s60R0x0eq (x0 x1 x2 x3 x8 : Value) (g : Nat → Value) (w : World) : s60K0 (Exit.exit 0) (frm 53 (setL [0, 1, 2, 3, 8] [x0, x1, x2, x3, x8] g) []) w = s60R0 (Exit.exit 0) [x0, x1, x2, x3, x8] w := by kernel_rfl
theorem s60R0of : ∀ (e : Exit) (xs : List Value) (w : World) (g : Nat → Value) (y : _), s60R0 e xs w = some y → s60K0 e (frm 53 (setL [0, 1, 2, 3, 8] xs g) []) w = some y := by
  intro e xs w g y h
  unfold s60R0 at h
  split at h
  · exact (s60R0x0eq _ _ _ _ _ g _).trans h
  · cases h
set_option maxRecDepth 20000 in
theorem s60L0of {s0 s1 s2 s3 s4 s5 s6 s7 s8 s9 s10 s11 s12 s13 s14 s15 s16 s17 s18 s19 s20 s21 s22 s23 s24 s25 s26 s27 s28 s29 s30 s31 s32 s33 s34 s35 s36 s37 s38 s39 s40 s41 s42 s43 s44 s45 s46 s47 s48 s49 s50 s51 s52 : Value} {w : World} {r : _} (h : loopR s60B0 s60R0 [s0, s1, s2, s3, s8] w = some r) : s60L0 [s0, s1, s2, s3, s4, s5, s6, s7, s8, s9, s10, s11, s12, s13, s14, s15, s16, s17, s18, s19, s20, s21, s22, s23, s24, s25, s26, s27, s28, s29, s30, s31, s32, s33, s34, s35, s36, s37, s38, s39, s40, s41, s42, s43, s44, s45, s46, s47, s48, s49, s50, s51, s52] [] w = some r :=
  loopN_of (B := s60B0) (R := s60R0) (n := 53) (live := [0, 1, 2, 3, 8]) (fun xs w g y hl h => match xs, hl, h with | [x0, x1, x2, x3, x8], _, h => (s60B0eq x0 x1 x2 x3 x8 w g []).trans (show s60B0raw g [] [x0, x1, x2, x3, x8] w = some y from (Ev.bind_mono fun (v1200 : Value) => (condK_mono (s60L1of) id)) h)) (by kernel_rfl) (s60R0of) (fun i => ([s0, s1, s2, s3, s4, s5, s6, s7, s8, s9, s10, s11, s12, s13, s14, s15, s16, s17, s18, s19, s20, s21, s22, s23, s24, s25, s26, s27, s28, s29, s30, s31, s32, s33, s34, s35, s36, s37, s38, s39, s40, s41, s42, s43, s44, s45, s46, s47, s48, s49, s50, s51, s52] : List Value).getD i undef) (by kernel_rfl) rfl h
theorem s60eq (x0 x1 x2 x3 : Value) (w : World) : evK Try.prog 60 none (bodyOf Try.f60) none _ { tmps := (([x0, x1, x2, x3] : List Value) ++ List.replicate (53 - 4) undef).toArray, defers := [] } w (leaveK Try.prog Try.f60) = s60raw x0 x1 x2 x3 w := by kernel_rfl
theorem c60 {x0 x1 x2 x3 : Value} {w : World} {r : Value × World} (h : s60 x0 x1 x2 x3 w = some r) : C Try.prog 60 #[x0, x1, x2, x3] w = some r :=
  C_ev follows_all drawLaw (by kernel_rfl) Try.func60 (by rfl) ((s60eq x0 x1 x2 x3 w).trans (show s60raw x0 x1 x2 x3 w = some r from (Ev.bind_mono fun (v1199 : Value) => (s60L0of)) h))
theorem e60 {x0 x1 x2 x3 : Value} {w : World} {Q : Value × World → Prop} (h : Brings (s60 x0 x1 x2 x3 w) Q) : Brings (Xcall Try.prog (Value.func (Fn.func 60) #[] #[]) #[x0, x1, x2, x3] w) Q :=
  h.call (Xcall_fn Try.func60 (by decide +kernel) (by rfl) _ _ _ w) fun _ h => c60 h

/-! slices.heapSortCmpFunc[lychgate/table.row[lychgate/api.Tuple, int]] -/
noncomputable def s61K0 : Exit → Act → World → Option (Value × World) := seqK (fun a w => evK Try.prog 61 none (nav [1, 1, 1, 1] (bodyOf Try.f61)) none _ a w (leaveK Try.prog Try.f61)) (leaveK Try.prog Try.f61)
noncomputable def s61K1 : Exit → Act → World → Option (Value × World) := blockK 0 s61K0
noncomputable def s61L0 (s : List Value) (d : List Deferred) (w : World) : Option (Value × World) := loopN Try.prog 61 none (nav [1, 1, 1, 0, 1, 0, 0] (bodyOf Try.f61)) s61K1 s d w
noncomputable def s61K2 : Exit → Act → World → Option (Value × World) := blockK 2 (leaveK Try.prog Try.f61)
noncomputable def s61L1 (s : List Value) (d : List Deferred) (w : World) : Option (Value × World) := loopN Try.prog 61 none (nav [1, 1, 1, 1, 1, 0, 0] (bodyOf Try.f61)) s61K2 s d w
noncomputable def s61B1 : List Value → World → Option (Exit × List Value × World)
  | [x0, x3, x8, x9, x12], w =>
    (Qbin Try.prog Go.BinOp.geq 3 x12 (Go.Value.int Go.IntKind.i64 0)).bind fun v1229 =>
    condK v1229 (
      (Qbin Try.prog Go.BinOp.add 3 x8 x12).bind fun v1230 =>
      (Qbin Try.prog Go.BinOp.add 3 x8 x12).bind fun v1231 =>
      (QindexAddr Try.prog 62 x0 v1231 w.drew).bind fun v1232 =>
      (Qload Try.prog 73 v1232 w.drew).bind fun v1233 =>
      (QindexAddr Try.prog 62 x0 x8 w.drew).bind fun v1234 =>
      (Qload Try.prog 73 v1234 w.drew).bind fun v1235 =>
      (QindexAddr Try.prog 62 x0 x8 w.drew).bind fun v1236 =>
      (Xstore Try.prog 73 v1236 v1233 w.drew).bind fun r1237 =>
      (QindexAddr Try.prog 62 x0 v1230 r1237.2).bind fun v1238 =>
      (Xstore Try.prog 73 v1238 v1235 r1237.2).bind fun r1239 =>
      chkK True (
        (Xcall Try.prog (Value.func (Fn.func 71) #[] #[]) #[x0, x9, x12, x8, x3] r1239.2).bind fun r1240 =>
        (Qbin Try.prog Go.BinOp.sub 3 x12 (Go.Value.int Go.IntKind.i64 1)).bind fun v1241 =>
        some (Exit.normal, [x0, x3, x8, x9, v1241], r1240.2)
      )
    ) (
      some ((Exit.exit 2), [x0, x3, x8, x9, x12], w)
    )
  | _, _ => none
noncomputable def s61R1 : Exit → List Value → World → Option (Value × World)
  | (Exit.exit 2), [_, _, _, _, _], w =>
    some ((Value.tuple #[]), w)
  | _, _, _ => none
noncomputable def s61B0 : List Value → World → Option (Exit × List Value × World)
  | [x0, x3, x8, x9, x10, x11], w =>
    (Qbin Try.prog Go.BinOp.geq 3 x11 (Go.Value.int Go.IntKind.i64 0)).bind fun v1225 =>
    condK v1225 (
      (Xcall Try.prog (Value.func (Fn.func 71) #[] #[]) #[x0, x11, x10, x8, x3] w).bind fun r1226 =>
      (Qbin Try.prog Go.BinOp.sub 3 x11 (Go.Value.int Go.IntKind.i64 1)).bind fun v1227 =>
      some (Exit.normal, [x0, x3, x8, x9, x10, v1227], r1226.2)
    ) (
      some ((Exit.exit 0), [x0, x3, x8, x9, x10, x11], w)
    )
  | _, _ => none
noncomputable def s61R0 : Exit → List Value → World → Option (Value × World)
  | (Exit.exit 0), [x0, x3, x8, x9, x10, _], w =>
    (Qbin Try.prog Go.BinOp.sub 3 x10 (Go.Value.int Go.IntKind.i64 1)).bind fun v1228 =>
    loopR s61B1 s61R1 [x0, x3, x8, x9, v1228] w
  | _, _, _ => none
noncomputable def s61R0x0raw (x0 x3 x8 x9 x10 x11 : Value) (g : Nat → Value) (w : World) : Option (Value × World) :=
  (Qbin Try.prog Go.BinOp.sub 3 x10 (Go.Value.int Go.IntKind.i64 1)).bind fun v1228 =>
  s61L1 [x0, (g 1), (g 2), x3, (g 4), (g 5), (g 6), (g 7), x8, x9, x10, x11, v1228, (g 13), (g 14), (g 15), (g 16), (g 17), (g 18), (g 19), (g 20), (g 21), (g 22), (g 23), (g 24), (g 25), (g 26), (g 27), (g 28), (g 29), x10, v1228, (g 32), (g 33), (g 34), (g 35), (g 36), (g 37), (g 38), (g 39), (g 40), (g 41), (g 42), (g 43), (g 44), (g 45), (g 46), (g 47), (g 48), (g 49), (g 50), (g 51), (g 52), (g 53), (g 54), (g 55), (g 56), (g 57), (g 58), (g 59)] [] w
noncomputable def s61raw (x0 x1 x2 x3 : Value) (w : World) : Option (Value × World) :=
  (Qbin Try.prog Go.BinOp.sub 3 x2 x1).bind fun v1222 =>
  (Qbin Try.prog Go.BinOp.sub 3 v1222 (Go.Value.int Go.IntKind.i64 1)).bind fun v1223 =>
  (Qbin Try.prog Go.BinOp.quo 3 v1223 (Go.Value.int Go.IntKind.i64 2)).bind fun v1224 =>
  s61L0 [x0, x1, x2, x3, undef, undef, undef, undef, x1, (Go.Value.int Go.IntKind.i64 0), v1222, v1224, undef, x1, x2, x1, v1222, v1222, v1223, v1224, undef, undef, undef, undef, undef, undef, undef, undef, undef, undef, undef, undef, undef, undef, undef, undef, undef, undef, undef, undef, undef, undef, undef, undef, undef, undef, undef, undef, undef, undef, undef, undef, undef, undef, undef, undef, undef, undef, undef, undef] [] w
noncomputable def s61 (x0 x1 x2 x3 : Value) (w : World) : Option (Value × World) :=
  (Qbin Try.prog Go.BinOp.sub 3 x2 x1).bind fun v1222 =>
  (Qbin Try.prog Go.BinOp.sub 3 v1222 (Go.Value.int Go.IntKind.i64 1)).bind fun v1223 =>
  (Qbin Try.prog Go.BinOp.quo 3 v1223 (Go.Value.int Go.IntKind.i64 2)).bind fun v1224 =>
  loopR s61B0 s61R0 [x0, x3, x1, (Go.Value.int Go.IntKind.i64 0), v1222, v1224] w
theorem s61B1eq (x0 x3 x8 x9 x12 : Value) (w : World) (g : Nat → Value) (d : List Deferred) : evK Try.prog 61 none (nav [1, 1, 1, 1, 1, 0, 0] (bodyOf Try.f61)) none _ (frm 60 (setL [0, 3, 8, 9, 12] [x0, x3, x8, x9, x12] g) d) w (projK [0, 3, 8, 9, 12]) = s61B1 [x0, x3, x8, x9, x12] w := by kernel_rfl
theorem s61R1x2eq (x0 x3 x8 x9 x12 : Value) (g : Nat → Value) (w : World) : s61K2 (Exit.exit 2) (frm 60 (setL [0, 3, 8, 9, 12] [x0, x3, x8, x9, x12] g) []) w = s61R1 (Exit.exit 2) [x0, x3, x8, x9, x12] w := by kernel_rfl
theorem s61R1of : ∀ (e : Exit) (xs : List Value) (w : World) (g : Nat → Value) (y : _), s61R1 e xs w = some y → s61K2 e (frm 60 (setL [0, 3, 8, 9, 12] xs g) []) w = some y := by
  intro e xs w g y h
  unfold s61R1 at h
  split at h
  · exact (s61R1x2eq _ _ _ _ _ g _).trans h
  · cases h
set_option maxRecDepth 20000 in
theorem s61L1of {s0 s1 s2 s3 s4 s5 s6 s7 s8 s9 s10 s11 s12 s13 s14 s15 s16 s17 s18 s19 s20 s21 s22 s23 s24 s25 s26 s27 s28 s29 s30 s31 s32 s33 s34 s35 s36 s37 s38 s39 s40 s41 s42 s43 s44 s45 s46 s47 s48 s49 s50 s51 s52 s53 s54 s55 s56 s57 s58 s59 : Value} {w : World} {r : _} (h : loopR s61B1 s61R1 [s0, s3, s8, s9, s12] w = some r) : s61L1 [s0, s1, s2, s3, s4, s5, s6, s7, s8, s9, s10, s11, s12, s13, s14, s15, s16, s17, s18, s19, s20, s21, s22, s23, s24, s25, s26, s27, s28, s29, s30, s31, s32, s33, s34, s35, s36, s37, s38, s39, s40, s41, s42, s43, s44, s45, s46, s47, s48, s49, s50, s51, s52, s53, s54, s55, s56, s57, s58, s59] [] w = some r :=
  loopN_of (B := s61B1) (R := s61R1) (n := 60) (live := [0, 3, 8, 9, 12]) (fun xs w g y hl h => match xs, hl, h with | [x0, x3, x8, x9, x12], _, h => (s61B1eq x0 x3 x8 x9 x12 w g []).trans h) (by kernel_rfl) (s61R1of) (fun i => ([s0, s1, s2, s3, s4, s5, s6, s7, s8, s9, s10, s11, s12, s13, s14, s15, s16, s17, s18, s19, s20, s21, s22, s23, s24, s25, s26, s27, s28, s29, s30, s31, s32, s33, s34, s35, s36, s37, s38, s39, s40, s41, s42, s43, s44, s45, s46, s47, s48, s49, s50, s51, s52, s53, s54, s55, s56, s57, s58, s59] : List Value).getD i undef) (by kernel_rfl) rfl h
theorem s61B0eq (x0 x3 x8 x9 x10 x11 : Value) (w : World) (g : Nat → Value) (d : List Deferred) : evK Try.prog 61 none (nav [1, 1, 1, 0, 1, 0, 0] (bodyOf Try.f61)) none _ (frm 60 (setL [0, 3, 8, 9, 10, 11] [x0, x3, x8, x9, x10, x11] g) d) w (projK [0, 3, 8, 9, 10, 11]) = s61B0 [x0, x3, x8, x9, x10, x11] w := by kernel_rfl
theorem s61R0x0eq (x0 x3 x8 x9 x10 x11 : Value) (g : Nat → Value) (w : World) : s61K1 (Exit.exit 0) (frm 60 (setL [0, 3, 8, 9, 10, 11] [x0, x3, x8, x9, x10, x11] g) []) w = s61R0x0raw x0 x3 x8 x9 x10 x11 g w := by kernel_rfl
theorem s61R0of : ∀ (e : Exit) (xs : List Value) (w : World) (g : Nat → Value) (y : _), s61R0 e xs w = some y → s61K1 e (frm 60 (setL [0, 3, 8, 9, 10, 11] xs g) []) w = some y := by
  intro e xs w g y h
  unfold s61R0 at h
  split at h
  · exact (s61R0x0eq _ _ _ _ _ _ g _).trans ((Ev.bind_mono fun (v1228 : Value) => (s61L1of)) h)
  · cases h
set_option maxRecDepth 20000 in
theorem s61L0of {s0 s1 s2 s3 s4 s5 s6 s7 s8 s9 s10 s11 s12 s13 s14 s15 s16 s17 s18 s19 s20 s21 s22 s23 s24 s25 s26 s27 s28 s29 s30 s31 s32 s33 s34 s35 s36 s37 s38 s39 s40 s41 s42 s43 s44 s45 s46 s47 s48 s49 s50 s51 s52 s53 s54 s55 s56 s57 s58 s59 : Value} {w : World} {r : _} (h : loopR s61B0 s61R0 [s0, s3, s8, s9, s10, s11] w = some r) : s61L0 [s0, s1, s2, s3, s4, s5, s6, s7, s8, s9, s10, s11, s12, s13, s14, s15, s16, s17, s18, s19, s20, s21, s22, s23, s24, s25, s26, s27, s28, s29, s30, s31, s32, s33, s34, s35, s36, s37, s38, s39, s40, s41, s42, s43, s44, s45, s46, s47, s48, s49, s50, s51, s52, s53, s54, s55, s56, s57, s58, s59] [] w = some r :=
  loopN_of (B := s61B0) (R := s61R0) (n := 60) (live := [0, 3, 8, 9, 10, 11]) (fun xs w g y hl h => match xs, hl, h with | [x0, x3, x8, x9, x10, x11], _, h => (s61B0eq x0 x3 x8 x9 x10 x11 w g []).trans h) (by kernel_rfl) (s61R0of) (fun i => ([s0, s1, s2, s3, s4, s5, s6, s7, s8, s9, s10, s11, s12, s13, s14, s15, s16, s17, s18, s19, s20, s21, s22, s23, s24, s25, s26, s27, s28, s29, s30, s31, s32, s33, s34, s35, s36, s37, s38, s39, s40, s41, s42, s43, s44, s45, s46, s47, s48, s49, s50, s51, s52, s53, s54, s55, s56, s57, s58, s59] : List Value).getD i undef) (by kernel_rfl) rfl h
theorem s61eq (x0 x1 x2 x3 : Value) (w : World) : evK Try.prog 61 none (bodyOf Try.f61) none _ { tmps := (([x0, x1, x2, x3] : List Value) ++ List.replicate (60 - 4) undef).toArray, defers := [] } w (leaveK Try.prog Try.f61) = s61raw x0 x1 x2 x3 w := by kernel_rfl
theorem c61 {x0 x1 x2 x3 : Value} {w : World} {r : Value × World} (h : s61 x0 x1 x2 x3 w = some r) : C Try.prog 61 #[x0, x1, x2, x3] w = some r :=
  C_ev follows_all drawLaw (by kernel_rfl) Try.func61 (by rfl) ((s61eq x0 x1 x2 x3 w).trans (show s61raw x0 x1 x2 x3 w = some r from (Ev.bind_mono fun (v1222 : Value) => (Ev.bind_mono fun (v1223 : Value) => (Ev.bind_mono fun (v1224 : Value) => (s61L0of)))) h))
theorem e61 {x0 x1 x2 x3 : Value} {w : World} {Q : Value × World → Prop} (h : Brings (s61 x0 x1 x2 x3 w) Q) : Brings (Xcall Try.prog (Value.func (Fn.func 61) #[] #[]) #[x0, x1, x2, x3] w) Q :=
  h.call (Xcall_fn Try.func61 (by decide +kernel) (by rfl) _ _ _ w) fun _ h => c61 h

/-! slices.breakPatternsCmpFunc[lychgate/table.row[lychgate/api.Tuple, int]] -/
noncomputable def s62K0 : Exit → Act → World → Option (Value × World) := blockK 0 (leaveK Try.prog Try.f62)
noncomputable def s62L0 (s : List Value) (d : List Deferred) (w : World) : Option (Value × World) := loopN Try.prog 62 none (nav [1, 1, 0, 1, 1, 1, 0, 0] (bodyOf Try.f62)) s62K0 s d w
noncomputable def s62K1 : Exit → Act → World → Option (Exit × List Value × World) := seqK (fun a w => evK Try.prog 62 none (nav [1, 1, 0, 1, 1, 1, 0, 0, 1, 1] (bodyOf Try.f62)) none _ a w (projK [0, 1, 8, 9, 10, 11])) (projK [0, 1, 8, 9, 10, 11])
noncomputable def s62K2 : Exit → Act → World → Option (Exit × List Value × World) := blockK 1 s62K1
noncomputable def s62K3 : Exit → Act → World → Option (Exit × List Value × World) := seqK (fun a w => evK Try.prog 62 none (nav [1, 1, 0, 1, 1, 1, 0, 0, 1, 0, 0, 1, 1] (bodyOf Try.f62)) none _ a w s62K2) s62K2
noncomputable def s62J1 (s : List Value) (d : List Deferred) (w : World) : Option (Exit × List Value × World) := s62K3 .normal ⟨s.toArray, d⟩ w
noncomputable def s62M1 (s0 s1 s8 s9 s10 s11 s12 : Value) (w : World) : Option (Exit × List Value × World) :=
  (Qbin Try.prog Go.BinOp.add 3 s1 s12).bind fun v1263 =>
  (Qbin Try.prog Go.BinOp.add 3 s1 s12).bind fun v1264 =>
  (QindexAddr Try.prog 62 s0 v1264 w.drew).bind fun v1265 =>
  (Qload Try.prog 73 v1265 w.drew).bind fun v1266 =>
  (QindexAddr Try.prog 62 s0 s11 w.drew).bind fun v1267 =>
  (Qload Try.prog 73 v1267 w.drew).bind fun v1268 =>
  (QindexAddr Try.prog 62 s0 s11 w.drew).bind fun v1269 =>
  (Xstore Try.prog 73 v1269 v1266 w.drew).bind fun r1270 =>
  (QindexAddr Try.prog 62 s0 v1263 r1270.2).bind fun v1271 =>
  (Xstore Try.prog 73 v1271 v1268 r1270.2).bind fun r1272 =>
  chkK True (
    (Qbin Try.prog Go.BinOp.add 3 s11 (Go.Value.int Go.IntKind.i64 1)).bind fun v1273 =>
    some (Exit.normal, [s0, s1, s8, s9, s10, v1273], r1272.2)
  )
noncomputable def s62B0raw (g : Nat → Value) (d : List Deferred) : List Value → World → Option (Exit × List Value × World)
  | [x0, x1, x8, x9, x10, x11], w =>
    (Qbin Try.prog Go.BinOp.quo 3 x8 (Go.Value.int Go.IntKind.i64 4)).bind fun v1252 =>
    (Qbin Try.prog Go.BinOp.mul 3 v1252 (Go.Value.int Go.IntKind.i64 2)).bind fun v1253 =>
    (Qbin Try.prog Go.BinOp.add 3 x1 v1253).bind fun v1254 =>
    (Qbin Try.prog Go.BinOp.add 3 v1254 (Go.Value.int Go.IntKind.i64 1)).bind fun v1255 =>
    (Qbin Try.prog Go.BinOp.leq 3 x11 v1255).bind fun v1256 =>
    condK v1256 (
      (Xcall Try.prog (Value.func (Fn.func 73) #[] #[]) #[x9] w).bind fun r1257 =>
      (Qbin Try.prog Go.BinOp.sub 93 x10 (Go.Value.int Go.IntKind.u64 1)).bind fun v1258 =>
      (Qbin Try.prog Go.BinOp.and 93 r1257.1 v1258).bind fun v1259 =>
      (Qconv Try.prog 93 3 v1259).bind fun v1260 =>
      (Qbin Try.prog Go.BinOp.geq 3 v1260 x8).bind fun v1261 =>
      condK v1261 (
        (Qbin Try.prog Go.BinOp.sub 3 v1260 x8).bind fun v1262 =>
        s62J1 [x0, x1, (g 2), (g 3), (g 4), (g 5), (g 6), (g 7), x8, x9, x10, x11, v1262, (g 13), (g 14), (g 15), (g 16), (g 17), (g 18), (g 19), (g 20), (g 21), (g 22), (g 23), (g 24), (g 25), (g 26), (g 27), x11, x1, x8, v1252, v1253, v1254, v1255, v1256, (g 36), (g 37), r1257.1, x10, v1258, v1259, v1260, v1260, x8, v1261, v1260, x8, v1262, (g 49), (g 50), (g 51), (g 52), (g 53), (g 54), (g 55), (g 56), (g 57), (g 58), (g 59), (g 60), (g 61), (g 62), (g 63), (g 64), (g 65), (g 66)] d r1257.2
      ) (
        s62J1 [x0, x1, (g 2), (g 3), (g 4), (g 5), (g 6), (g 7), x8, x9, x10, x11, v1260, (g 13), (g 14), (g 15), (g 16), (g 17), (g 18), (g 19), (g 20), (g 21), (g 22), (g 23), (g 24), (g 25), (g 26), (g 27), x11, x1, x8, v1252, v1253, v1254, v1255, v1256, (g 36), (g 37), r1257.1, x10, v1258, v1259, v1260, v1260, x8, v1261, (g 46), (g 47), (g 48), (g 49), (g 50), (g 51), (g 52), (g 53), (g 54), (g 55), (g 56), (g 57), (g 58), (g 59), (g 60), (g 61), (g 62), (g 63), (g 64), (g 65), (g 66)] d r1257.2
      )
    ) (
      some ((Exit.exit 0), [x0, x1, x8, x9, x10, x11], w)
    )
  | _, _ => none
noncomputable def s62B0 : List Value → World → Option (Exit × List Value × World)
  | [x0, x1, x8, x9, x10, x11], w =>
    (Qbin Try.prog Go.BinOp.quo 3 x8 (Go.Value.int Go.IntKind.i64 4)).bind fun v1252 =>
    (Qbin Try.prog Go.BinOp.mul 3 v1252 (Go.Value.int Go.IntKind.i64 2)).bind fun v1253 =>
    (Qbin Try.prog Go.BinOp.add 3 x1 v1253).bind fun v1254 =>
    (Qbin Try.prog Go.BinOp.add 3 v1254 (Go.Value.int Go.IntKind.i64 1)).bind fun v1255 =>
    (Qbin Try.prog Go.BinOp.leq 3 x11 v1255).bind fun v1256 =>
    condK v1256 (
      (Xcall Try.prog (Value.func (Fn.func 73) #[] #[]) #[x9] w).bind fun r1257 =>
      (Qbin Try.prog Go.BinOp.sub 93 x10 (Go.Value.int Go.IntKind.u64 1)).bind fun v1258 =>
      (Qbin Try.prog Go.BinOp.and 93 r1257.1 v1258).bind fun v1259 =>
      (Qconv Try.prog 93 3 v1259).bind fun v1260 =>
      (Qbin Try.prog Go.BinOp.geq 3 v1260 x8).bind fun v1261 =>
      condK v1261 (
        (Qbin Try.prog Go.BinOp.sub 3 v1260 x8).bind fun v1262 =>
        s62M1 x0 x1 x8 x9 x10 x11 v1262 r1257.2
      ) (
        s62M1 x0 x1 x8 x9 x10 x11 v1260 r1257.2
      )
    ) (
      some ((Exit.exit 0), [x0, x1, x8, x9, x10, x11], w)
    )
  | _, _ => none
noncomputable def s62R0 : Exit → List Value → World → Option (Value × World)
  | (Exit.exit 0), [_, _, _, _, _, _], w =>
    some ((Value.tuple #[]), w)
  | _, _, _ => none
noncomputable def s62raw (x0 x1 x2 x3 : Value) (w : World) : Option (Value × World) :=
  (Qbin Try.prog Go.BinOp.sub 3 x2 x1).bind fun v1242 =>
  (Qbin Try.prog Go.BinOp.geq 3 v1242 (Go.Value.int Go.IntKind.i64 8)).bind fun v1243 =>
  condK v1243 (
    (Qconv Try.prog 3 116 v1242).bind fun v1244 =>
    (Xalloc Try.prog 116 w).bind fun r1245 =>
    (Xstore Try.prog 116 r1245.1 v1244 r1245.2).bind fun r1246 =>
    (Xcall Try.prog (Value.func (Fn.func 72) #[] #[]) #[v1242] r1246.2).bind fun r1247 =>
    (Qbin Try.prog Go.BinOp.quo 3 v1242 (Go.Value.int Go.IntKind.i64 4)).bind fun v1248 =>
    (Qbin Try.prog Go.BinOp.mul 3 v1248 (Go.Value.int Go.IntKind.i64 2)).bind fun v1249 =>
    (Qbin Try.prog Go.BinOp.add 3 x1 v1249).bind fun v1250 =>
    (Qbin Try.prog Go.BinOp.sub 3 v1250 (Go.Value.int Go.IntKind.i64 1)).bind fun v1251 =>
    s62L0 [x0, x1, x2, x3, undef, undef, undef, undef, v1242, r1245.1, r1247.1, v1251, undef, x2, x1, v1242, v1242, v1243, v1242, v1244, v1242, r1247.1, x1, v1242, v1248, v1249, v1250, v1251, undef, undef, undef, undef, undef, undef, undef, undef, undef, undef, undef, undef, undef, undef, undef, undef, undef, undef, undef, undef, undef, undef, undef, undef, undef, undef, undef, undef, undef, undef, undef, undef, undef, undef, undef, undef, undef, undef, undef] [] r1247.2
  ) (
    some ((Value.tuple #[]), w)
  )
noncomputable def s62 (x0 x1 x2 _x3 : Value) (w : World) : Option (Value × World) :=
  (Qbin Try.prog Go.BinOp.sub 3 x2 x1).bind fun v1242 =>
  (Qbin Try.prog Go.BinOp.geq 3 v1242 (Go.Value.int Go.IntKind.i64 8)).bind fun v1243 =>
  condK v1243 (
    (Qconv Try.prog 3 116 v1242).bind fun v1244 =>
    (Xalloc Try.prog 116 w).bind fun r1245 =>
    (Xstore Try.prog 116 r1245.1 v1244 r1245.2).bind fun r1246 =>
    (Xcall Try.prog (Value.func (Fn.func 72) #[] #[]) #[v1242] r1246.2).bind fun r1247 =>
    (Qbin Try.prog Go.BinOp.quo 3 v1242 (Go.Value.int Go.IntKind.i64 4)).bind fun v1248 =>
    (Qbin Try.prog Go.BinOp.mul 3 v1248 (Go.Value.int Go.IntKind.i64 2)).bind fun v1249 =>
    (Qbin Try.prog Go.BinOp.add 3 x1 v1249).bind fun v1250 =>
    (Qbin Try.prog Go.BinOp.sub 3 v1250 (Go.Value.int Go.IntKind.i64 1)).bind fun v1251 =>
    loopR s62B0 s62R0 [x0, x1, v1242, r1245.1, r1247.1, v1251] r1247.2
  ) (
    some ((Value.tuple #[]), w)
  )
theorem s62J1eq (s0 s1 s2 s3 s4 s5 s6 s7 s8 s9 s10 s11 s12 s13 s14 s15 s16 s17 s18 s19 s20 s21 s22 s23 s24 s25 s26 s27 s28 s29 s30 s31 s32 s33 s34 s35 s36 s37 s38 s39 s40 s41 s42 s43 s44 s45 s46 s47 s48 s49 s50 s51 s52 s53 s54 s55 s56 s57 s58 s59 s60 s61 s62 s63 s64 s65 s66 : Value) (w : World) : s62J1 [s0, s1, s2, s3, s4, s5, s6, s7, s8, s9, s10, s11, s12, s13, s14, s15, s16, s17, s18, s19, s20, s21, s22, s23, s24, s25, s26, s27, s28, s29, s30, s31, s32, s33, s34, s35, s36, s37, s38, s39, s40, s41, s42, s43, s44, s45, s46, s47, s48, s49, s50, s51, s52, s53, s54, s55, s56, s57, s58, s59, s60, s61, s62, s63, s64, s65, s66] [] w = s62M1 s0 s1 s8 s9 s10 s11 s12 w := (show s62J1 [s0, s1, s2, s3, s4, s5, s6, s7, s8, s9, s10, s11, s12, s13, s14, s15, s16, s17, s18, s19, s20, s21, s22, s23, s24, s25, s26, s27, s28, s29, s30, s31, s32, s33, s34, s35, s36, s37, s38, s39, s40, s41, s42, s43, s44, s45, s46, s47, s48, s49, s50, s51, s52, s53, s54, s55, s56, s57, s58, s59, s60, s61, s62, s63, s64, s65, s66] [] w = evK Try.prog 62 none (nav [1, 1, 0, 1, 1, 1, 0, 0, 1, 0, 0, 1, 1] (bodyOf Try.f62)) none _ ⟨[s0, s1, s2, s3, s4, s5, s6, s7, s8, s9, s10, s11, s12, s13, s14, s15, s16, s17, s18, s19, s20, s21, s22, s23, s24, s25, s26, s27, s28, s29, s30, s31, s32, s33, s34, s35, s36, s37, s38, s39, s40, s41, s42, s43, s44, s45, s46, s47, s48, s49, s50, s51, s52, s53, s54, s55, s56, s57, s58, s59, s60, s61, s62, s63, s64, s65, s66].toArray, []⟩ w s62K2 from by kernel_rfl).trans (by kernel_rfl)
theorem s62J1of {s0 s1 s2 s3 s4 s5 s6 s7 s8 s9 s10 s11 s12 s13 s14 s15 s16 s17 s18 s19 s20 s21 s22 s23 s24 s25 s26 s27 s28 s29 s30 s31 s32 s33 s34 s35 s36 s37 s38 s39 s40 s41 s42 s43 s44 s45 s46 s47 s48 s49 s50 s51 s52 s53 s54 s55 s56 s57 s58 s59 s60 s61 s62 s63 s64 s65 s66 : Value} {w : World} {r : _} (h : s62M1 s0 s1 s8 s9 s10 s11 s12 w = some r) : s62J1 [s0, s1, s2, s3, s4, s5, s6, s7, s8, s9, s10, s11, s12, s13, s14, s15, s16, s17, s18, s19, s20, s21, s22, s23, s24, s25, s26, s27, s28, s29, s30, s31, s32, s33, s34, s35, s36, s37, s38, s39, s40, s41, s42, s43, s44, s45, s46, s47, s48, s49, s50, s51, s52, s53, s54, s55, s56, s57, s58, s59, s60, s61, s62, s63, s64, s65, s66] [] w = some r :=
  ((s62J1eq s0 s1 s2 s3 s4 s5 s6 s7 s8 s9 s10 s11 s12 s13 s14 s15 s16 s17 s18 s19 s20 s21 s22 s23 s24 s25 s26 s27 s28 s29 s30 s31 s32 s33 s34 s35 s36 s37 s38 s39 s40 s41 s42 s43 s44 s45 s46 s47 s48 s49 s50 s51 s52 s53 s54 s55 s56 s57 s58 s59 s60 s61 s62 s63 s64 s65 s66 w).trans h)
theorem s62B0eq (x0 x1 x8 x9 x10 x11 : Value) (w : World) (g : Nat → Value) (d : List Deferred) : evK Try.prog 62 none (nav [1, 1, 0, 1, 1, 1, 0, 0] (bodyOf Try.f62)) none _ (frm 67 (setL [0, 1, 8, 9, 10, 11] [x0, x1, x8, x9, x10, x11] g) d) w (projK [0, 1, 8, 9, 10, 11]) = s62B0raw g d [x0, x1, x8, x9, x10, x11] w := by kernel_rfl
theorem s62R0x0eq (x0 x1 x8 x9 x10 x11 : Value) (g : Nat → Value) (w : World) : s62K0 (Exit.exit 0) (frm 67 (setL [0, 1, 8, 9, 10, 11] [x0, x1, x8, x9, x10, x11] g) []) w = s62R0 (Exit.exit 0) [x0, x1, x8, x9, x10, x11] w := by kernel_rfl
theorem s62R0of : ∀ (e : Exit) (xs : List Value) (w : World) (g : Nat → Value) (y : _), s62R0 e xs w = some y → s62K0 e (frm 67 (setL [0, 1, 8, 9, 10, 11] xs g) []) w = some y := by
  intro e xs w g y h
  unfold s62R0 at h
  split at h
  · exact (s62R0x0eq _ _ _ _ _ _ g _).trans h
  · cases h
set_option maxRecDepth 20000 in
theorem s62L0of {s0 s1 s2 s3 s4 s5 s6 s7 s8 s9 s10 s11 s12 s13 s14 s15 s16 s17 s18 s19 s20 s21 s22 s23 s24 s25 s26 s27 s28 s29 s30 s31 s32 s33 s34 s35 s36 s37 s38 s39 s40 s41 s42 s43 s44 s45 s46 s47 s48 s49 s50 s51 s52 s53 s54 s55 s56 s57 s58 s59 s60 s61 s62 s63 s64 s65 s66 : Value} {w : World} {r : _} (h : loopR s62B0 s62R0 [s0, s1, s8, s9, s10, s11] w = some r) : s62L0 [s0, s1, s2, s3, s4, s5, s6, s7, s8, s9, s10, s11, s12, s13, s14, s15, s16, s17, s18, s19, s20, s21, s22, s23, s24, s25, s26, s27, s28, s29, s30, s31, s32, s33, s34, s35, s36, s37, s38, s39, s40, s41, s42, s43, s44, s45, s46, s47, s48, s49, s50, s51, s52, s53, s54, s55, s56, s57, s58, s59, s60, s61, s62, s63, s64, s65, s66] [] w = some r :=
  loopN_of (B := s62B0) (R := s62R0) (n := 67) (live := [0, 1, 8, 9, 10, 11]) (fun xs w g y hl h => match xs, hl, h with | [x0, x1, x8, x9, x10, x11], _, h => (s62B0eq x0 x1 x8 x9 x10 x11 w g []).trans (show s62B0raw g [] [x0, x1, x8, x9, x10, x11] w = some y from (Ev.bind_mono fun (v1252 : Value) => (Ev.bind_mono fun (v1253 : Value) => (Ev.bind_mono fun (v1254 : Value) => (Ev.bind_mono fun (v1255 : Value) => (Ev.bind_mono fun (v1256 : Value) => (condK_mono (Ev.bind_mono fun (r1257 : Value × World) => (Ev.bind_mono fun (v1258 : Value) => (Ev.bind_mono fun (v1259 : Value) => (Ev.bind_mono fun (v1260 : Value) => (Ev.bind_mono fun (v1261 : Value) => (condK_mono (Ev.bind_mono fun (v1262 : Value) => (s62J1of)) (s62J1of))))))) id)))))) h)) (by kernel_rfl) (s62R0of) (fun i => ([s0, s1, s2, s3, s4, s5, s6, s7, s8, s9, s10, s11, s12, s13, s14, s15, s16, s17, s18, s19, s20, s21, s22, s23, s24, s25, s26, s27, s28, s29, s30, s31, s32, s33, s34, s35, s36, s37, s38, s39, s40, s41, s42, s43, s44, s45, s46, s47, s48, s49, s50, s51, s52, s53, s54, s55, s56, s57, s58, s59, s60, s61, s62, s63, s64, s65, s66] : List Value).getD i undef) (by kernel_rfl) rfl h
theorem s62eq (x0 x1 x2 x3 : Value) (w : World) : evK Try.prog 62 none (bodyOf Try.f62) none _ { tmps := (([x0, x1, x2, x3] : List Value) ++ List.replicate (67 - 4) undef).toArray, defers := [] } w (leaveK Try.prog Try.f62) = s62raw x0 x1 x2 x3 w := by kernel_rfl
theorem c62 {x0 x1 x2 x3 : Value} {w : World} {r : Value × World} (h : s62 x0 x1 x2 x3 w = some r) : C Try.prog 62 #[x0, x1, x2, x3] w = some r :=
  C_ev follows_all drawLaw (by kernel_rfl) Try.func62 (by rfl) ((s62eq x0 x1 x2 x3 w).trans (show s62raw x0 x1 x2 x3 w = some r from (Ev.bind_mono fun (v1242 : Value) => (Ev.bind_mono fun (v1243 : Value) => (condK_mono (Ev.bind_mono fun (v1244 : Value) => (Ev.bind_mono fun (r1245 : Value × World) => (Ev.bind_mono fun (r1246 : Value × World) => (Ev.bind_mono fun (r1247 : Value × World) => (Ev.bind_mono fun (v1248 : Value) => (Ev.bind_mono fun (v1249 : Value) => (Ev.bind_mono fun (v1250 : Value) => (Ev.bind_mono fun (v1251 : Value) => (s62L0of))))))))) id))) h))
theorem e62 {x0 x1 x2 x3 : Value} {w : World} {Q : Value × World → Prop} (h : Brings (s62 x0 x1 x2 x3 w) Q) : Brings (Xcall Try.prog (Value.func (Fn.func 62) #[] #[]) #[x0, x1, x2, x3] w) Q :=
  h.call (Xcall_fn Try.func62 (by decide +kernel) (by rfl) _ _ _ w) fun _ h => c62 h

/-! slices.choosePivotCmpFunc[lychgate/table.row[lychgate/api.Tuple, int]] -/
noncomputable def s63K0 : Exit → Act → World → Option (Value × World) := seqK (fun a w => evK Try.prog 63 none (nav [1, 1, 1, 1, 1, 1, 1] (bodyOf Try.f63)) none _ a w (leaveK Try.prog Try.f63)) (leaveK Try.prog Try.f63)
noncomputable def s63J0 (s : List Value) (d : List Deferred) (w : World) : Option (Value × World) := s63K0 .normal ⟨s.toArray, d⟩ w
noncomputable def s63M0 (s11 s13 : Value) (w : World) : Option (Value × World) :=
  (Qload Try.prog 3 s11 w).bind fun v1292 =>
  (Qbin Try.prog Go.BinOp.eql 3 v1292 (Go.Value.int Go.IntKind.i64 0)).bind fun v1293 =>
  condK v1293 (
    some ((Value.tuple #[s13, (Go.Value.int Go.IntKind.i64 1)]), w)
  ) (
    (Qbin Try.prog Go.BinOp.eql 3 v1292 (Go.Value.int Go.IntKind.i64 12)).bind fun v1294 =>
    condK v1294 (
      some ((Value.tuple #[s13, (Go.Value.int Go.IntKind.i64 2)]), w)
    ) (
      some ((Value.tuple #[s13, (Go.Value.int Go.IntKind.i64 0)]), w)
    )
  )
noncomputable def s63raw (x0 x1 x2 x3 : Value) (w : World) : Option (Value × World) :=
  (Qbin Try.prog Go.BinOp.sub 3 x2 x1).bind fun v1274 =>
  (Xalloc Try.prog 3 w).bind fun r1275 =>
  (Qbin Try.prog Go.BinOp.quo 3 v1274 (Go.Value.int Go.IntKind.i64 4)).bind fun v1276 =>
  (Qbin Try.prog Go.BinOp.mul 3 v1276 (Go.Value.int Go.IntKind.i64 1)).bind fun v1277 =>
  (Qbin Try.prog Go.BinOp.add 3 x1 v1277).bind fun v1278 =>
  (Qbin Try.prog Go.BinOp.quo 3 v1274 (Go.Value.int Go.IntKind.i64 4)).bind fun v1279 =>
  (Qbin Try.prog Go.BinOp.mul 3 v1279 (Go.Value.int Go.IntKind.i64 2)).bind fun v1280 =>
  (Qbin Try.prog Go.BinOp.add 3 x1 v1280).bind fun v1281 =>
  (Qbin Try.prog Go.BinOp.quo 3 v1274 (Go.Value.int Go.IntKind.i64 4)).bind fun v1282 =>
  (Qbin Try.prog Go.BinOp.mul 3 v1282 (Go.Value.int Go.IntKind.i64 3)).bind fun v1283 =>
  (Qbin Try.prog Go.BinOp.add 3 x1 v1283).bind fun v1284 =>
  (Qbin Try.prog Go.BinOp.geq 3 v1274 (Go.Value.int Go.IntKind.i64 8)).bind fun v1285 =>
  condK v1285 (
    (Qbin Try.prog Go.BinOp.geq 3 v1274 (Go.Value.int Go.IntKind.i64 50)).bind fun v1286 =>
    condK v1286 (
      (Xcall Try.prog (Value.func (Fn.func 74) #[] #[]) #[x0, v1278, r1275.1, x3] r1275.2).bind fun r1287 =>
      (Xcall Try.prog (Value.func (Fn.func 74) #[] #[]) #[x0, v1281, r1275.1, x3] r1287.2).bind fun r1288 =>
      (Xcall Try.prog (Value.func (Fn.func 74) #[] #[]) #[x0, v1284, r1275.1, x3] r1288.2).bind fun r1289 =>
      (Xcall Try.prog (Value.func (Fn.func 75) #[] #[]) #[x0, r1287.1, r1288.1, r1289.1, r1275.1, x3] r1289.2).bind fun r1290 =>
      s63J0 [x0, x1, x2, x3, undef, undef, undef, undef, (Go.Value.int Go.IntKind.i64 0), (Go.Value.int Go.IntKind.i64 0), v1274, r1275.1, r1287.1, r1290.1, r1289.1, x2, x1, v1274, x1, v1274, v1276, v1277, v1278, x1, v1274, v1279, v1280, v1281, x1, v1274, v1282, v1283, v1284, v1274, v1285, v1274, v1286, x0, v1278, x3, r1287.1, x0, v1281, x3, r1288.1, x0, v1284, x3, r1289.1, x0, r1287.1, r1288.1, r1289.1, x3, r1290.1, undef, undef, undef, undef, undef, undef, undef, undef] [] r1290.2
    ) (
      (Xcall Try.prog (Value.func (Fn.func 75) #[] #[]) #[x0, v1278, v1281, v1284, r1275.1, x3] r1275.2).bind fun r1291 =>
      s63J0 [x0, x1, x2, x3, undef, undef, undef, undef, (Go.Value.int Go.IntKind.i64 0), (Go.Value.int Go.IntKind.i64 0), v1274, r1275.1, v1278, r1291.1, v1284, x2, x1, v1274, x1, v1274, v1276, v1277, v1278, x1, v1274, v1279, v1280, v1281, x1, v1274, v1282, v1283, v1284, v1274, v1285, v1274, v1286, undef, undef, undef, undef, undef, undef, undef, undef, undef, undef, undef, undef, x0, v1278, v1281, v1284, x3, r1291.1, undef, undef, undef, undef, undef, undef, undef, undef] [] r1291.2
    )
  ) (
    s63J0 [x0, x1, x2, x3, undef, undef, undef, undef, (Go.Value.int Go.IntKind.i64 0), (Go.Value.int Go.IntKind.i64 0), v1274, r1275.1, v1278, v1281, v1284, x2, x1, v1274, x1, v1274, v1276, v1277, v1278, x1, v1274, v1279, v1280, v1281, x1, v1274, v1282, v1283, v1284, v1274, v1285, undef, undef, undef, undef, undef, undef, undef, undef, undef, undef, undef, undef, undef, undef, undef, undef, undef, undef, undef, undef, undef, undef, undef, undef, undef, undef, undef, undef] [] r1275.2
  )
noncomputable def s63 (x0 x1 x2 x3 : Value) (w : World) : Option (Value × World) :=
  (Qbin Try.prog Go.BinOp.sub 3 x2 x1).bind fun v1274 =>
  (Xalloc Try.prog 3 w).bind fun r1275 =>
  (Qbin Try.prog Go.BinOp.quo 3 v1274 (Go.Value.int Go.IntKind.i64 4)).bind fun v1276 =>
  (Qbin Try.prog Go.BinOp.mul 3 v1276 (Go.Value.int Go.IntKind.i64 1)).bind fun v1277 =>
  (Qbin Try.prog Go.BinOp.add 3 x1 v1277).bind fun v1278 =>
  (Qbin Try.prog Go.BinOp.quo 3 v1274 (Go.Value.int Go.IntKind.i64 4)).bind fun v1279 =>
  (Qbin Try.prog Go.BinOp.mul 3 v1279 (Go.Value.int Go.IntKind.i64 2)).bind fun v1280 =>
  (Qbin Try.prog Go.BinOp.add 3 x1 v1280).bind fun v1281 =>
  (Qbin Try.prog Go.BinOp.quo 3 v1274 (Go.Value.int Go.IntKind.i64 4)).bind fun v1282 =>
  (Qbin Try.prog Go.BinOp.mul 3 v1282 (Go.Value.int Go.IntKind.i64 3)).bind fun v1283 =>
  (Qbin Try.prog Go.BinOp.add 3 x1 v1283).bind fun v1284 =>
  (Qbin Try.prog Go.BinOp.geq 3 v1274 (Go.Value.int Go.IntKind.i64 8)).bind fun v1285 =>
  condK v1285 (
    (Qbin Try.prog Go.BinOp.geq 3 v1274 (Go.Value.int Go.IntKind.i64 50)).bind fun v1286 =>
    condK v1286 (
      (Xcall Try.prog (Value.func (Fn.func 74) #[] #[]) #[x0, v1278, r1275.1, x3] r1275.2).bind fun r1287 =>
      (Xcall Try.prog (Value.func (Fn.func 74) #[] #[]) #[x0, v1281, r1275.1, x3] r1287.2).bind fun r1288 =>
      (Xcall Try.prog (Value.func (Fn.func 74) #[] #[]) #[x0, v1284, r1275.1, x3] r1288.2).bind fun r1289 =>
      (Xcall Try.prog (Value.func (Fn.func 75) #[] #[]) #[x0, r1287.1, r1288.1, r1289.1, r1275.1, x3] r1289.2).bind fun r1290 =>
      s63M0 r1275.1 r1290.1 r1290.2
    ) (
      (Xcall Try.prog (Value.func (Fn.func 75) #[] #[]) #[x0, v1278, v1281, v1284, r1275.1, x3] r1275.2).bind fun r1291 =>
      s63M0 r1275.1 r1291.1 r1291.2
    )
  ) (
    s63M0 r1275.1 v1281 r1275.2
  )
theorem s63J0eq (s0 s1 s2 s3 s4 s5 s6 s7 s8 s9 s10 s11 s12 s13 s14 s15 s16 s17 s18 s19 s20 s21 s22 s23 s24 s25 s26 s27 s28 s29 s30 s31 s32 s33 s34 s35 s36 s37 s38 s39 s40 s41 s42 s43 s44 s45 s46 s47 s48 s49 s50 s51 s52 s53 s54 s55 s56 s57 s58 s59 s60 s61 s62 : Value) (w : World) : s63J0 [s0, s1, s2, s3, s4, s5, s6, s7, s8, s9, s10, s11, s12, s13, s14, s15, s16, s17, s18, s19, s20, s21, s22, s23, s24, s25, s26, s27, s28, s29, s30, s31, s32, s33, s34, s35, s36, s37, s38, s39, s40, s41, s42, s43, s44, s45, s46, s47, s48, s49, s50, s51, s52, s53, s54, s55, s56, s57, s58, s59, s60, s61, s62] [] w = s63M0 s11 s13 w := (show s63J0 [s0, s1, s2, s3, s4, s5, s6, s7, s8, s9, s10, s11, s12, s13, s14, s15, s16, s17, s18, s19, s20, s21, s22, s23, s24, s25, s26, s27, s28, s29, s30, s31, s32, s33, s34, s35, s36, s37, s38, s39, s40, s41, s42, s43, s44, s45, s46, s47, s48, s49, s50, s51, s52, s53, s54, s55, s56, s57, s58, s59, s60, s61, s62] [] w = evK Try.prog 63 none (nav [1, 1, 1, 1, 1, 1, 1] (bodyOf Try.f63)) none _ ⟨[s0, s1, s2, s3, s4, s5, s6, s7, s8, s9, s10, s11, s12, s13, s14, s15, s16, s17, s18, s19, s20, s21, s22, s23, s24, s25, s26, s27, s28, s29, s30, s31, s32, s33, s34, s35, s36, s37, s38, s39, s40, s41, s42, s43, s44, s45, s46, s47, s48, s49, s50, s51, s52, s53, s54, s55, s56, s57, s58, s59, s60, s61, s62].toArray, []⟩ w (leaveK Try.prog Try.f63) from by kernel_rfl).trans (by kernel_rfl)
theorem s63J0of {s0 s1 s2 s3 s4 s5 s6 s7 s8 s9 s10 s11 s12 s13 s14 s15 s16 s17 s18 s19 s20 s21 s22 s23 s24 s25 s26 s27 s28 s29 s30 s31 s32 s33 s34 s35 s36 s37 s38 s39 s40 s41 s42 s43 s44 s45 s46 s47 s48 s49 s50 s51 s52 s53 s54 s55 s56 s57 s58 s59 s60 s61 s62 : Value} {w : World} {r : _} (h : s63M0 s11 s13 w = some r) : s63J0 [s0, s1, s2, s3, s4, s5, s6, s7, s8, s9, s10, s11, s12, s13, s14, s15, s16, s17, s18, s19, s20, s21, s22, s23, s24, s25, s26, s27, s28, s29, s30, s31, s32, s33, s34, s35, s36, s37, s38, s39, s40, s41, s42, s43, s44, s45, s46, s47, s48, s49, s50, s51, s52, s53, s54, s55, s56, s57, s58, s59, s60, s61, s62] [] w = some r :=
  ((s63J0eq s0 s1 s2 s3 s4 s5 s6 s7 s8 s9 s10 s11 s12 s13 s14 s15 s16 s17 s18 s19 s20 s21 s22 s23 s24 s25 s26 s27 s28 s29 s30 s31 s32 s33 s34 s35 s36 s37 s38 s39 s40 s41 s42 s43 s44 s45 s46 s47 s48 s49 s50 s51 s52 s53 s54 s55 s56 s57 s58 s59 s60 s61 s62 w).trans h)
theorem s63eq (x0 x1 x2 x3 : Value) (w : World) : evK Try.prog 63 none (bodyOf Try.f63) none _ { tmps := (([x0, x1, x2, x3] : List Value) ++ List.replicate (63 - 4) undef).toArray, defers := [] } w (leaveK Try.prog Try.f63) = s63raw x0 x1 x2 x3 w := by kernel_rfl
theorem c63 {x0 x1 x2 x3 : Value} {w : World} {r : Value × World} (h : s63 x0 x1 x2 x3 w = some r) : C Try.prog 63 #[x0, x1, x2, x3] w = some r :=
  C_ev follows_all drawLaw (by kernel_rfl) Try.func63 (by rfl) ((s63eq x0 x1 x2 x3 w).trans (show s63raw x0 x1 x2 x3 w = some r from (Ev.bind_mono fun (v1274 : Value) => (Ev.bind_mono fun (r1275 : Value × World) => (Ev.bind_mono fun (v1276 : Value) => (Ev.bind_mono fun (v1277 : Value) => (Ev.bind_mono fun (v1278 : Value) => (Ev.bind_mono fun (v1279 : Value) => (Ev.bind_mono fun (v1280 : Value) => (Ev.bind_mono fun (v1281 : Value) => (Ev.bind_mono fun (v1282 : Value) => (Ev.bind_mono fun (v1283 : Value) => (Ev.bind_mono fun (v1284 : Value) => (Ev.bind_mono fun (v1285 : Value) => (condK_mono (Ev.bind_mono fun (v1286 : Value) => (condK_mono (Ev.bind_mono fun (r1287 : Value × World) => (Ev.bind_mono fun (r1288 : Value × World) => (Ev.bind_mono fun (r1289 : Value × World) => (Ev.bind_mono fun (r1290 : Value × World) => (s63J0of))))) (Ev.bind_mono fun (r1291 : Value × World) => (s63J0of)))) (s63J0of)))))))))))))) h))
theorem e63 {x0 x1 x2 x3 : Value} {w : World} {Q : Value × World → Prop} (h : Brings (s63 x0 x1 x2 x3 w) Q) : Brings (Xcall Try.prog (Value.func (Fn.func 63) #[] #[]) #[x0, x1, x2, x3] w) Q :=
  h.call (Xcall_fn Try.func63 (by decide +kernel) (by rfl) _ _ _ w) fun _ h => c63 h

/-! slices.reverseRangeCmpFunc[lychgate/table.row[lychgate/api.Tuple, int]] -/
noncomputable def s64K0 : Exit → Act → World → Option (Value × World) := blockK 0 (leaveK Try.prog Try.f64)
noncomputable def s64L0 (s : List Value) (d : List Deferred) (w : World) : Option (Value × World) := loopN Try.prog 64 none (nav [1, 1, 0, 0] (bodyOf Try.f64)) s64K0 s d w
noncomputable def s64B0 : List Value → World → Option (Exit × List Value × World)
  | [x0, x8, x9], w =>
    (Qbin Try.prog Go.BinOp.lss 3 x8 x9).bind fun v1296 =>
    condK v1296 (
      (QindexAddr Try.prog 62 x0 x9 w.drew).bind fun v1297 =>
      (Qload Try.prog 73 v1297 w.drew).bind fun v1298 =>
      (QindexAddr Try.prog 62 x0 x8 w.drew).bind fun v1299 =>
      (Qload Try.prog 73 v1299 w.drew).bind fun v1300 =>
      (QindexAddr Try.prog 62 x0 x8 w.drew).bind fun v1301 =>
      (Xstore Try.prog 73 v1301 v1298 w.drew).bind fun r1302 =>
      (QindexAddr Try.prog 62 x0 x9 r1302.2).bind fun v1303 =>
      (Xstore Try.prog 73 v1303 v1300 r1302.2).bind fun r1304 =>
      chkK True (
        (Qbin Try.prog Go.BinOp.add 3 x8 (Go.Value.int Go.IntKind.i64 1)).bind fun v1305 =>
        (Qbin Try.prog Go.BinOp.sub 3 x9 (Go.Value.int Go.IntKind.i64 1)).bind fun v1306 =>
        some (Exit.normal, [x0, v1305, v1306], r1304.2)
      )
    ) (
      some ((Exit.exit 0), [x0, x8, x9], w)
    )
  | _, _ => none
noncomputable def s64R0 : Exit → List Value → World → Option (Value × World)
  | (Exit.exit 0), [_, _, _], w =>
    some ((Value.tuple #[]), w)
  | _, _, _ => none
noncomputable def s64raw (x0 x1 x2 x3 : Value) (w : World) : Option (Value × World) :=
  (Qbin Try.prog Go.BinOp.sub 3 x2 (Go.Value.int Go.IntKind.i64 1)).bind fun v1295 =>
  s64L0 [x0, x1, x2, x3, undef, undef, undef, undef, x1, v1295, x1, x2, v1295, undef, undef, undef, undef, undef, undef, undef, undef, undef, undef, undef, undef, undef, undef, undef, undef, undef, undef, undef, undef, undef] [] w
noncomputable def s64 (x0 x1 x2 _x3 : Value) (w : World) : Option (Value × World) :=
  (Qbin Try.prog Go.BinOp.sub 3 x2 (Go.Value.int Go.IntKind.i64 1)).bind fun v1295 =>
  loopR s64B0 s64R0 [x0, x1, v1295] w
theorem s64B0eq (x0 x8 x9 : Value) (w : World) (g : Nat → Value) (d : List Deferred) : evK Try.prog 64 none (nav [1, 1, 0, 0] (bodyOf Try.f64)) none _ (frm 34 (setL [0, 8, 9] [x0, x8, x9] g) d) w (projK [0, 8, 9]) = s64B0 [x0, x8, x9] w := by kernel_rfl
theorem s64R0x0eq (x0 x8 x9 : Value) (g : Nat → Value) (w : World) : s64K0 (Exit.exit 0) (frm 34 (setL [0, 8, 9] [x0, x8, x9] g) []) w = s64R0 (Exit.exit 0) [x0, x8, x9] w := by kernel_rfl
theorem s64R0of : ∀ (e : Exit) (xs : List Value) (w : World) (g : Nat → Value) (y : _), s64R0 e xs w = some y → s64K0 e (frm 34 (setL [0, 8, 9] xs g) []) w = some y := by
  intro e xs w g y h
  unfold s64R0 at h
  split at h
  · exact (s64R0x0eq _ _ _ g _).trans h
  · cases h
set_option maxRecDepth 20000 in
theorem s64L0of {s0 s1 s2 s3 s4 s5 s6 s7 s8 s9 s10 s11 s12 s13 s14 s15 s16 s17 s18 s19 s20 s21 s22 s23 s24 s25 s26 s27 s28 s29 s30 s31 s32 s33 : Value} {w : World} {r : _} (h : loopR s64B0 s64R0 [s0, s8, s9] w = some r) : s64L0 [s0, s1, s2, s3, s4, s5, s6, s7, s8, s9, s10, s11, s12, s13, s14, s15, s16, s17, s18, s19, s20, s21, s22, s23, s24, s25, s26, s27, s28, s29, s30, s31, s32, s33] [] w = some r :=
  loopN_of (B := s64B0) (R := s64R0) (n := 34) (live := [0, 8, 9]) (fun xs w g y hl h => match xs, hl, h with | [x0, x8, x9], _, h => (s64B0eq x0 x8 x9 w g []).trans h) (by kernel_rfl) (s64R0of) (fun i => ([s0, s1, s2, s3, s4, s5, s6, s7, s8, s9, s10, s11, s12, s13, s14, s15, s16, s17, s18, s19, s20, s21, s22, s23, s24, s25, s26, s27, s28, s29, s30, s31, s32, s33] : List Value).getD i undef) (by kernel_rfl) rfl h
theorem s64eq (x0 x1 x2 x3 : Value) (w : World) : evK Try.prog 64 none (bodyOf Try.f64) none _ { tmps := (([x0, x1, x2, x3] : List Value) ++ List.replicate (34 - 4) undef).toArray, defers := [] } w (leaveK Try.prog Try.f64) = s64raw x0 x1 x2 x3 w := by kernel_rfl
theorem c64 {x0 x1 x2 x3 : Value} {w : World} {r : Value × World} (h : s64 x0 x1 x2 x3 w = some r) : C Try.prog 64 #[x0, x1, x2, x3] w = some r :=
  C_ev follows_all drawLaw (by kernel_rfl) Try.func64 (by rfl) ((s64eq x0 x1 x2 x3 w).trans (show s64raw x0 x1 x2 x3 w = some r from (Ev.bind_mono fun (v1295 : Value) => (s64L0of)) h))
theorem e64 {x0 x1 x2 x3 : Value} {w : World} {Q : Value × World → Prop} (h : Brings (s64 x0 x1 x2 x3 w) Q) : Brings (Xcall Try.prog (Value.func (Fn.func 64) #[] #[]) #[x0, x1, x2, x3] w) Q :=
  h.call (Xcall_fn Try.func64 (by decide +kernel) (by rfl) _ _ _ w) fun _ h => c64 h

/-! slices.partialInsertionSortCmpFunc[lychgate/table.row[lychgate/api.Tuple, int]] -/
noncomputable def s65K0 : Exit → Act → World → Option (Value × World) := seqK (fun a w => evK Try.prog 65 none (nav [1, 1, 1] (bodyOf Try.f65)) none _ a w (leaveK Try.prog Try.f65)) (leaveK Try.prog Try.f65)
noncomputable def s65K1 : Exit → Act → World → Option (Value × World) := blockK 0 s65K0
noncomputable def s65L0 (s : List Value) (d : List Deferred) (w : World) : Option (Value × World) := loopN Try.prog 65 none (nav [1, 1, 0, 1, 0, 0] (bodyOf Try.f65)) s65K1 s d w
noncomputable def s65K2 : Exit → Act → World → Option (Exit × List Value × World) := seqK (fun a w => evK Try.prog 65 none (nav [1, 1, 0, 1, 0, 0, 1, 1] (bodyOf Try.f65)) none _ a w (projK [0, 1, 2, 3, 8, 9, 10])) (projK [0, 1, 2, 3, 8, 9, 10])
noncomputable def s65K3 : Exit → Act → World → Option (Exit × List Value × World) := blockK 1 s65K2
noncomputable def s65K4 : Exit → Act → World → Option (Exit × List Value × World) := seqK (fun a w => evK Try.prog 65 none (nav [1, 1, 0, 1, 0, 0, 1, 0, 0, 1] (bodyOf Try.f65)) none _ a w s65K3) s65K3
noncomputable def s65K5 : Exit → Act → World → Option (Exit × List Value × World) := blockK 2 s65K4
noncomputable def s65L1 (s : List Value) (d : List Deferred) (w : World) : Option (Exit × List Value × World) := loopN Try.prog 65 none (nav [1, 1, 0, 1, 0, 0, 1, 0, 0, 0, 0, 0] (bodyOf Try.f65)) s65K5 s d w
noncomputable def s65K6 : Exit → Act → World → Option (Exit × List Value × World) := seqK (fun a w => evK Try.prog 65 none (nav [1, 1, 0, 1, 0, 0, 1, 0, 0, 1, 1, 1, 1, 1] (bodyOf Try.f65)) none _ a w s65K3) s65K3
noncomputable def s65J2 (s : List Value) (d : List Deferred) (w : World) : Option (Exit × List Value × World) := s65K6 .normal ⟨s.toArray, d⟩ w
noncomputable def s65K7 : Exit → Act → World → Option (Exit × List Value × World) := blockK 4 s65K6
noncomputable def s65L3 (s : List Value) (d : List Deferred) (w : World) : Option (Exit × List Value × World) := loopN Try.prog 65 none (nav [1, 1, 0, 1, 0, 0, 1, 0, 0, 1, 1, 1, 1, 0, 1, 0, 1, 0, 0] (bodyOf Try.f65)) s65K7 s d w
noncomputable def s65K8 : Exit → Act → World → Option (Exit × List Value × World) := blockK 6 s65K3
noncomputable def s65L4 (s : List Value) (d : List Deferred) (w : World) : Option (Exit × List Value × World) := loopN Try.prog 65 none (nav [1, 1, 0, 1, 0, 0, 1, 0, 0, 1, 1, 1, 1, 1, 1, 0, 1, 0, 0] (bodyOf Try.f65)) s65K8 s d w
noncomputable def s65B4 : List Value → World → Option (Exit × List Value × World)
  | [x0, x1, x2, x3, x8, x9, x10, x12], w =>
    (Qbin Try.prog Go.BinOp.lss 3 x12 x2).bind fun v1360 =>
    condK v1360 (
      (QindexAddr Try.prog 62 x0 x12 w.drew).bind fun v1361 =>
      (Qload Try.prog 73 v1361 w.drew).bind fun v1362 =>
      (Qbin Try.prog Go.BinOp.sub 3 x12 (Go.Value.int Go.IntKind.i64 1)).bind fun v1363 =>
      (QindexAddr Try.prog 62 x0 v1363 w.drew).bind fun v1364 =>
      (Qload Try.prog 73 v1364 w.drew).bind fun v1365 =>
      (Xcall Try.prog x3 #[v1362, v1365] w.drew).bind fun r1366 =>
      (Qbin Try.prog Go.BinOp.lss 3 r1366.1 (Go.Value.int Go.IntKind.i64 0)).bind fun v1367 =>
      (Qun Go.UnOp.not v1367).bind fun v1368 =>
      chkK True (
        condK v1368 (
          some ((Exit.exit 6), [x0, x1, x2, x3, x8, x9, x10, x12], r1366.2)
        ) (
          (Qbin Try.prog Go.BinOp.sub 3 x12 (Go.Value.int Go.IntKind.i64 1)).bind fun v1369 =>
          (Qbin Try.prog Go.BinOp.sub 3 x12 (Go.Value.int Go.IntKind.i64 1)).bind fun v1370 =>
          (QindexAddr Try.prog 62 x0 v1370 r1366.2.drew).bind fun v1371 =>
          (Qload Try.prog 73 v1371 r1366.2.drew).bind fun v1372 =>
          (QindexAddr Try.prog 62 x0 x12 r1366.2.drew).bind fun v1373 =>
          (Qload Try.prog 73 v1373 r1366.2.drew).bind fun v1374 =>
          (QindexAddr Try.prog 62 x0 x12 r1366.2.drew).bind fun v1375 =>
          (Xstore Try.prog 73 v1375 v1372 r1366.2.drew).bind fun r1376 =>
          (QindexAddr Try.prog 62 x0 v1369 r1376.2).bind fun v1377 =>
          (Xstore Try.prog 73 v1377 v1374 r1376.2).bind fun r1378 =>
          chkK True (
            (Qbin Try.prog Go.BinOp.add 3 x12 (Go.Value.int Go.IntKind.i64 1)).bind fun v1379 =>
            some (Exit.normal, [x0, x1, x2, x3, x8, x9, x10, v1379], r1378.2)
          )
        )
      )
    ) (
      some ((Exit.exit 6), [x0, x1, x2, x3, x8, x9, x10, x12], w)
    )
  | _, _ => none
noncomputable def s65R4 : Exit → List Value → World → Option (Exit × List Value × World)
  | (Exit.exit 6), [x0, x1, x2, x3, x8, x9, x10, _], w =>
    (Qbin Try.prog Go.BinOp.add 3 x10 (Go.Value.int Go.IntKind.i64 1)).bind fun v1380 =>
    some (Exit.normal, [x0, x1, x2, x3, x8, x9, v1380], w)
  | _, _, _ => none
noncomputable def s65M2raw (s0 s1 s2 s3 s4 s5 s6 s7 s8 s9 s10 s11 _s12 s13 s14 s15 s16 s17 s18 s19 s20 s21 s22 s23 s24 s25 s26 s27 s28 s29 s30 s31 s32 s33 s34 s35 s36 s37 s38 s39 s40 s41 s42 s43 s44 s45 s46 s47 s48 s49 s50 s51 s52 s53 s54 s55 s56 s57 s58 s59 s60 s61 s62 s63 s64 s65 s66 s67 s68 s69 s70 s71 s72 s73 s74 s75 s76 s77 s78 s79 s80 s81 s82 s83 s84 s85 s86 s87 s88 s89 s90 s91 s92 s93 s94 s95 s96 s97 s98 s99 s100 _s101 _s102 _s103 _s104 _s105 _s106 s107 s108 s109 s110 s111 s112 s113 s114 s115 s116 s117 s118 s119 s120 s121 s122 s123 s124 s125 s126 s127 s128 s129 s130 s131 s132 s133 s134 s135 s136 s137 s138 s139 s140 : Value) (w : World) : Option (Exit × List Value × World) :=
  (Qbin Try.prog Go.BinOp.sub 3 s2 s9).bind fun v1336 =>
  (Qbin Try.prog Go.BinOp.geq 3 v1336 (Go.Value.int Go.IntKind.i64 2)).bind fun v1337 =>
  condK v1337 (
    (Qbin Try.prog Go.BinOp.add 3 s9 (Go.Value.int Go.IntKind.i64 1)).bind fun v1338 =>
    s65L4 [s0, s1, s2, s3, s4, s5, s6, s7, s8, s9, s10, s11, v1338, s13, s14, s15, s16, s17, s18, s19, s20, s21, s22, s23, s24, s25, s26, s27, s28, s29, s30, s31, s32, s33, s34, s35, s36, s37, s38, s39, s40, s41, s42, s43, s44, s45, s46, s47, s48, s49, s50, s51, s52, s53, s54, s55, s56, s57, s58, s59, s60, s61, s62, s63, s64, s65, s66, s67, s68, s69, s70, s71, s72, s73, s74, s75, s76, s77, s78, s79, s80, s81, s82, s83, s84, s85, s86, s87, s88, s89, s90, s91, s92, s93, s94, s95, s96, s97, s98, s99, s100, s2, s9, v1336, v1337, s9, v1338, s107, s108, s109, s110, s111, s112, s113, s114, s115, s116, s117, s118, s119, s120, s121, s122, s123, s124, s125, s126, s127, s128, s129, s130, s131, s132, s133, s134, s135, s136, s137, s138, s139, s140] [] w
  ) (
    (Qbin Try.prog Go.BinOp.add 3 s10 (Go.Value.int Go.IntKind.i64 1)).bind fun v1339 =>
    some (Exit.normal, [s0, s1, s2, s3, s8, s9, v1339], w)
  )
noncomputable def s65M2 (s0 s1 s2 s3 s8 s9 s10 : Value) (w : World) : Option (Exit × List Value × World) :=
  (Qbin Try.prog Go.BinOp.sub 3 s2 s9).bind fun v1336 =>
  (Qbin Try.prog Go.BinOp.geq 3 v1336 (Go.Value.int Go.IntKind.i64 2)).bind fun v1337 =>
  condK v1337 (
    (Qbin Try.prog Go.BinOp.add 3 s9 (Go.Value.int Go.IntKind.i64 1)).bind fun v1338 =>
    loopR s65B4 s65R4 [s0, s1, s2, s3, s8, s9, s10, v1338] w
  ) (
    (Qbin Try.prog Go.BinOp.add 3 s10 (Go.Value.int Go.IntKind.i64 1)).bind fun v1339 =>
    some (Exit.normal, [s0, s1, s2, s3, s8, s9, v1339], w)
  )
noncomputable def s65B3 : List Value → World → Option (Exit × List Value × World)
  | [x0, x1, x2, x3, x8, x9, x10, x11], w =>
    (Qbin Try.prog Go.BinOp.geq 3 x11 (Go.Value.int Go.IntKind.i64 1)).bind fun v1340 =>
    condK v1340 (
      (QindexAddr Try.prog 62 x0 x11 w.drew).bind fun v1341 =>
      (Qload Try.prog 73 v1341 w.drew).bind fun v1342 =>
      (Qbin Try.prog Go.BinOp.sub 3 x11 (Go.Value.int Go.IntKind.i64 1)).bind fun v1343 =>
      (QindexAddr Try.prog 62 x0 v1343 w.drew).bind fun v1344 =>
      (Qload Try.prog 73 v1344 w.drew).bind fun v1345 =>
      (Xcall Try.prog x3 #[v1342, v1345] w.drew).bind fun r1346 =>
      (Qbin Try.prog Go.BinOp.lss 3 r1346.1 (Go.Value.int Go.IntKind.i64 0)).bind fun v1347 =>
      (Qun Go.UnOp.not v1347).bind fun v1348 =>
      chkK True (
        condK v1348 (
          some ((Exit.exit 4), [x0, x1, x2, x3, x8, x9, x10, x11], r1346.2)
        ) (
          (Qbin Try.prog Go.BinOp.sub 3 x11 (Go.Value.int Go.IntKind.i64 1)).bind fun v1349 =>
          (Qbin Try.prog Go.BinOp.sub 3 x11 (Go.Value.int Go.IntKind.i64 1)).bind fun v1350 =>
          (QindexAddr Try.prog 62 x0 v1350 r1346.2.drew).bind fun v1351 =>
          (Qload Try.prog 73 v1351 r1346.2.drew).bind fun v1352 =>
          (QindexAddr Try.prog 62 x0 x11 r1346.2.drew).bind fun v1353 =>
          (Qload Try.prog 73 v1353 r1346.2.drew).bind fun v1354 =>
          (QindexAddr Try.prog 62 x0 x11 r1346.2.drew).bind fun v1355 =>
          (Xstore Try.prog 73 v1355 v1352 r1346.2.drew).bind fun r1356 =>
          (QindexAddr Try.prog 62 x0 v1349 r1356.2).bind fun v1357 =>
          (Xstore Try.prog 73 v1357 v1354 r1356.2).bind fun r1358 =>
          chkK True (
            (Qbin Try.prog Go.BinOp.sub 3 x11 (Go.Value.int Go.IntKind.i64 1)).bind fun v1359 =>
            some (Exit.normal, [x0, x1, x2, x3, x8, x9, x10, v1359], r1358.2)
          )
        )
      )
    ) (
      some ((Exit.exit 4), [x0, x1, x2, x3, x8, x9, x10, x11], w)
    )
  | _, _ => none
noncomputable def s65R3 : Exit → List Value → World → Option (Exit × List Value × World)
  | (Exit.exit 4), [x0, x1, x2, x3, x8, x9, x10, _], w =>
    s65M2 x0 x1 x2 x3 x8 x9 x10 w
  | _, _, _ => none
noncomputable def s65R3x4raw (x0 x1 x2 x3 x8 x9 x10 x11 : Value) (g : Nat → Value) (w : World) : Option (Exit × List Value × World) :=
  s65J2 [x0, x1, x2, x3, (g 4), (g 5), (g 6), (g 7), x8, x9, x10, x11, (g 12), (g 13), (g 14), (g 15), (g 16), (g 17), (g 18), (g 19), (g 20), (g 21), (g 22), (g 23), (g 24), (g 25), (g 26), (g 27), (g 28), (g 29), (g 30), (g 31), (g 32), (g 33), (g 34), (g 35), (g 36), (g 37), (g 38), (g 39), (g 40), (g 41), (g 42), (g 43), (g 44), (g 45), (g 46), (g 47), (g 48), (g 49), (g 50), (g 51), (g 52), (g 53), (g 54), (g 55), (g 56), (g 57), (g 58), (g 59), (g 60), (g 61), (g 62), (g 63), (g 64), (g 65), (g 66), (g 67), (g 68), (g 69), (g 70), (g 71), (g 72), (g 73), (g 74), (g 75), (g 76), (g 77), (g 78), (g 79), (g 80), (g 81), (g 82), (g 83), (g 84), (g 85), (g 86), (g 87), (g 88), (g 89), (g 90), (g 91), (g 92), (g 93), (g 94), (g 95), (g 96), (g 97), (g 98), (g 99), (g 100), (g 101), (g 102), (g 103), (g 104), (g 105), (g 106), (g 107), (g 108), (g 109), (g 110), (g 111), (g 112), (g 113), (g 114), (g 115), (g 116), (g 117), (g 118), (g 119), (g 120), (g 121), (g 122), (g 123), (g 124), (g 125), (g 126), (g 127), (g 128), (g 129), (g 130), (g 131), (g 132), (g 133), (g 134), (g 135), (g 136), (g 137), (g 138), (g 139), (g 140)] [] w
noncomputable def s65B1 : List Value → World → Option (Exit × List Value × World)
  | [x0, x1, x2, x3, x8, x9, x10], w =>
    (Qbin Try.prog Go.BinOp.lss 3 x9 x2).bind fun v1309 =>
    (guardQ v1309 true (QindexAddr Try.prog 62 (gv (isB v1309 true) x0) (gv (isB v1309 true) x9) w.drew)).bind fun v1310 =>
    (guardQ v1309 true (Qload Try.prog 73 v1310 w.drew)).bind fun v1311 =>
    (guardQ v1309 true (Qbin Try.prog Go.BinOp.sub 3 (gv (isB v1309 true) x9) (Go.Value.int Go.IntKind.i64 1))).bind fun v1312 =>
    (guardQ v1309 true (QindexAddr Try.prog 62 (gv (isB v1309 true) x0) v1312 w.drew)).bind fun v1313 =>
    (guardQ v1309 true (Qload Try.prog 73 v1313 w.drew)).bind fun v1314 =>
    (guardX v1309 true w.drew (Xcall Try.prog (gv (isB v1309 true) x3) #[v1311, v1314] w.drew)).bind fun r1315 =>
    (guardQ v1309 true (Qbin Try.prog Go.BinOp.lss 3 r1315.1 (Go.Value.int Go.IntKind.i64 0))).bind fun v1316 =>
    (guardQ v1309 true (Qun Go.UnOp.not v1316)).bind fun v1317 =>
    (Qpick v1309 v1317 (Go.Value.bool false)).bind fun v1318 =>
    chkK True (
      condK v1318 (
        (Qbin Try.prog Go.BinOp.add 3 x9 (Go.Value.int Go.IntKind.i64 1)).bind fun v1319 =>
        some (Exit.normal, [x0, x1, x2, x3, x8, v1319, x10], r1315.2)
      ) (
        some ((Exit.exit 2), [x0, x1, x2, x3, x8, x9, x10], r1315.2)
      )
    )
  | _, _ => none
noncomputable def s65R1 : Exit → List Value → World → Option (Exit × List Value × World)
  | (Exit.exit 2), [x0, x1, x2, x3, x8, x9, x10], w =>
    (Qbin Try.prog Go.BinOp.eql 3 x9 x2).bind fun v1320 =>
    condK v1320 (
      some (Exit.ret, [x0, x1, x2, x3, (Go.Value.bool true), x9, x10], w)
    ) (
      (Qbin Try.prog Go.BinOp.sub 3 x2 x1).bind fun v1321 =>
      (Qbin Try.prog Go.BinOp.lss 3 v1321 (Go.Value.int Go.IntKind.i64 50)).bind fun v1322 =>
      condK v1322 (
        some (Exit.ret, [x0, x1, x2, x3, (Go.Value.bool false), x9, x10], w)
      ) (
        (Qbin Try.prog Go.BinOp.sub 3 x9 (Go.Value.int Go.IntKind.i64 1)).bind fun v1323 =>
        (Qbin Try.prog Go.BinOp.sub 3 x9 (Go.Value.int Go.IntKind.i64 1)).bind fun v1324 =>
        (QindexAddr Try.prog 62 x0 v1324 w.drew).bind fun v1325 =>
        (Qload Try.prog 73 v1325 w.drew).bind fun v1326 =>
        (QindexAddr Try.prog 62 x0 x9 w.drew).bind fun v1327 =>
        (Qload Try.prog 73 v1327 w.drew).bind fun v1328 =>
        (QindexAddr Try.prog 62 x0 x9 w.drew).bind fun v1329 =>
        (Xstore Try.prog 73 v1329 v1326 w.drew).bind fun r1330 =>
        (QindexAddr Try.prog 62 x0 v1323 r1330.2).bind fun v1331 =>
        (Xstore Try.prog 73 v1331 v1328 r1330.2).bind fun r1332 =>
        chkK True (
          (Qbin Try.prog Go.BinOp.sub 3 x9 x1).bind fun v1333 =>
          (Qbin Try.prog Go.BinOp.geq 3 v1333 (Go.Value.int Go.IntKind.i64 2)).bind fun v1334 =>
          condK v1334 (
            (Qbin Try.prog Go.BinOp.sub 3 x9 (Go.Value.int Go.IntKind.i64 1)).bind fun v1335 =>
            loopR s65B3 s65R3 [x0, x1, x2, x3, x8, x9, x10, v1335] r1332.2
          ) (
            s65M2 x0 x1 x2 x3 x8 x9 x10 r1332.2
          )
        )
      )
    )
  | _, _, _ => none
noncomputable def s65R1x2raw (x0 x1 x2 x3 x8 x9 x10 : Value) (g : Nat → Value) (w : World) : Option (Exit × List Value × World) :=
  (Qbin Try.prog Go.BinOp.eql 3 x9 x2).bind fun v1320 =>
  condK v1320 (
    some (Exit.ret, [x0, x1, x2, x3, (Go.Value.bool true), x9, x10], w)
  ) (
    (Qbin Try.prog Go.BinOp.sub 3 x2 x1).bind fun v1321 =>
    (Qbin Try.prog Go.BinOp.lss 3 v1321 (Go.Value.int Go.IntKind.i64 50)).bind fun v1322 =>
    condK v1322 (
      some (Exit.ret, [x0, x1, x2, x3, (Go.Value.bool false), x9, x10], w)
    ) (
      (Qbin Try.prog Go.BinOp.sub 3 x9 (Go.Value.int Go.IntKind.i64 1)).bind fun v1323 =>
      (Qbin Try.prog Go.BinOp.sub 3 x9 (Go.Value.int Go.IntKind.i64 1)).bind fun v1324 =>
      (QindexAddr Try.prog 62 x0 v1324 w.drew).bind fun v1325 =>
      (Qload Try.prog 73 v1325 w.drew).bind fun v1326 =>
      (QindexAddr Try.prog 62 x0 x9 w.drew).bind fun v1327 =>
      (Qload Try.prog 73 v1327 w.drew).bind fun v1328 =>
      (QindexAddr Try.prog 62 x0 x9 w.drew).bind fun v1329 =>
      (Xstore Try.prog 73 v1329 v1326 w.drew).bind fun r1330 =>
      (QindexAddr Try.prog 62 x0 v1323 r1330.2).bind fun v1331 =>
      (Xstore Try.prog 73 v1331 v1328 r1330.2).bind fun r1332 =>
      chkK True (
        (Qbin Try.prog Go.BinOp.sub 3 x9 x1).bind fun v1333 =>
        (Qbin Try.prog Go.BinOp.geq 3 v1333 (Go.Value.int Go.IntKind.i64 2)).bind fun v1334 =>
        condK v1334 (
          (Qbin Try.prog Go.BinOp.sub 3 x9 (Go.Value.int Go.IntKind.i64 1)).bind fun v1335 =>
          s65L3 [x0, x1, x2, x3, (g 4), (g 5), (g 6), (g 7), x8, x9, x10, v1335, (g 12), (g 13), (g 14), (g 15), (g 16), (g 17), (g 18), (g 19), (g 20), (g 21), (g 22), (g 23), (g 24), (g 25), (g 26), (g 27), (g 28), (g 29), (g 30), (g 31), (g 32), (g 33), (g 34), (g 35), (g 36), (g 37), (g 38), x9, x2, v1320, x2, x1, v1321, v1322, x0, x9, x0, x9, v1323, x0, x9, v1324, v1325, v1326, x0, x9, v1327, v1328, v1329, v1331, x9, x1, v1333, v1334, x9, v1335, (g 68), (g 69), (g 70), (g 71), (g 72), (g 73), (g 74), (g 75), (g 76), (g 77), (g 78), (g 79), (g 80), (g 81), (g 82), (g 83), (g 84), (g 85), (g 86), (g 87), (g 88), (g 89), (g 90), (g 91), (g 92), (g 93), (g 94), (g 95), (g 96), (g 97), (g 98), (g 99), (g 100), (g 101), (g 102), (g 103), (g 104), (g 105), (g 106), (g 107), (g 108), (g 109), (g 110), (g 111), (g 112), (g 113), (g 114), (g 115), (g 116), (g 117), (g 118), (g 119), (g 120), (g 121), (g 122), (g 123), (g 124), (g 125), (g 126), (g 127), (g 128), (g 129), (g 130), (g 131), (g 132), (g 133), (g 134), (g 135), (g 136), (g 137), (g 138), (g 139), (g 140)] [] r1332.2
        ) (
          s65J2 [x0, x1, x2, x3, (g 4), (g 5), (g 6), (g 7), x8, x9, x10, (g 11), (g 12), (g 13), (g 14), (g 15), (g 16), (g 17), (g 18), (g 19), (g 20), (g 21), (g 22), (g 23), (g 24), (g 25), (g 26), (g 27), (g 28), (g 29), (g 30), (g 31), (g 32), (g 33), (g 34), (g 35), (g 36), (g 37), (g 38), x9, x2, v1320, x2, x1, v1321, v1322, x0, x9, x0, x9, v1323, x0, x9, v1324, v1325, v1326, x0, x9, v1327, v1328, v1329, v1331, x9, x1, v1333, v1334, (g 66), (g 67), (g 68), (g 69), (g 70), (g 71), (g 72), (g 73), (g 74), (g 75), (g 76), (g 77), (g 78), (g 79), (g 80), (g 81), (g 82), (g 83), (g 84), (g 85), (g 86), (g 87), (g 88), (g 89), (g 90), (g 91), (g 92), (g 93), (g 94), (g 95), (g 96), (g 97), (g 98), (g 99), (g 100), (g 101), (g 102), (g 103), (g 104), (g 105), (g 106), (g 107), (g 108), (g 109), (g 110), (g 111), (g 112), (g 113), (g 114), (g 115), (g 116), (g 117), (g 118), (g 119), (g 120), (g 121), (g 122), (g 123), (g 124), (g 125), (g 126), (g 127), (g 128), (g 129), (g 130), (g 131), (g 132), (g 133), (g 134), (g 135), (g 136), (g 137), (g 138), (g 139), (g 140)] [] r1332.2
        )
      )
    )
  )
noncomputable def s65B0raw (g : Nat → Value) (d : List Deferred) : List Value → World → Option (Exit × List Value × World)
  | [x0, x1, x2, x3, x8, x9, x10], w =>
    (Qbin Try.prog Go.BinOp.lss 3 x10 (Go.Value.int Go.IntKind.i64 5)).bind fun v1308 =>
    condK v1308 (
      s65L1 [x0, x1, x2, x3, (g 4), (g 5), (g 6), (g 7), x8, x9, x10, (g 11), (g 12), (g 13), (g 14), x10, v1308, (g 17), (g 18), (g 19), (g 20), (g 21), (g 22), (g 23), (g 24), (g 25), (g 26), (g 27), (g 28), (g 29), (g 30), (g 31), (g 32), (g 33), (g 34), (g 35), (g 36), (g 37), (g 38), (g 39), (g 40), (g 41), (g 42), (g 43), (g 44), (g 45), (g 46), (g 47), (g 48), (g 49), (g 50), (g 51), (g 52), (g 53), (g 54), (g 55), (g 56), (g 57), (g 58), (g 59), (g 60), (g 61), (g 62), (g 63), (g 64), (g 65), (g 66), (g 67), (g 68), (g 69), (g 70), (g 71), (g 72), (g 73), (g 74), (g 75), (g 76), (g 77), (g 78), (g 79), (g 80), (g 81), (g 82), (g 83), (g 84), (g 85), (g 86), (g 87), (g 88), (g 89), (g 90), (g 91), (g 92), (g 93), (g 94), (g 95), (g 96), (g 97), (g 98), (g 99), (g 100), (g 101), (g 102), (g 103), (g 104), (g 105), (g 106), (g 107), (g 108), (g 109), (g 110), (g 111), (g 112), (g 113), (g 114), (g 115), (g 116), (g 117), (g 118), (g 119), (g 120), (g 121), (g 122), (g 123), (g 124), (g 125), (g 126), (g 127), (g 128), (g 129), (g 130), (g 131), (g 132), (g 133), (g 134), (g 135), (g 136), (g 137), (g 138), (g 139), (g 140)] d w
    ) (
      some ((Exit.exit 0), [x0, x1, x2, x3, x8, x9, x10], w)
    )
  | _, _ => none
noncomputable def s65B0 : List Value → World → Option (Exit × List Value × World)
  | [x0, x1, x2, x3, x8, x9, x10], w =>
    (Qbin Try.prog Go.BinOp.lss 3 x10 (Go.Value.int Go.IntKind.i64 5)).bind fun v1308 =>
    condK v1308 (
      loopR s65B1 s65R1 [x0, x1, x2, x3, x8, x9, x10] w
    ) (
      some ((Exit.exit 0), [x0, x1, x2, x3, x8, x9, x10], w)
    )
  | _, _ => none
noncomputable def s65R0 : Exit → List Value → World → Option (Value × World)
  | (Exit.exit 0), [_, _, _, _, _, _, _], w =>
    some ((Go.Value.bool false), w)
  | Exit.ret, [_, _, _, _, x8, _, _], w =>
    some (x8, w)
  | _, _, _ => none
noncomputable def s65raw (x0 x1 x2 x3 : Value) (w : World) : Option (Value × World) :=
  (Qbin Try.prog Go.BinOp.add 3 x1 (Go.Value.int Go.IntKind.i64 1)).bind fun v1307 =>
  s65L0 [x0, x1, x2, x3, undef, undef, undef, undef, (Go.Value.bool false), v1307, (Go.Value.int Go.IntKind.i64 0), undef, undef, x1, v1307, undef, undef, undef, undef, undef, undef, undef, undef, undef, undef, undef, undef, undef, undef, undef, undef, undef, undef, undef, undef, undef, undef, undef, undef, undef, undef, undef, undef, undef, undef, undef, undef, undef, undef, undef, undef, undef, undef, undef, undef, undef, undef, undef, undef, undef, undef, undef, undef, undef, undef, undef, undef, undef, undef, undef, undef, undef, undef, undef, undef, undef, undef, undef, undef, undef, undef, undef, undef, undef, undef, undef, undef, undef, undef, undef, undef, undef, undef, undef, undef, undef, undef, undef, undef, undef, undef, undef, undef, undef, undef, undef, undef, undef, undef, undef, undef, undef, undef, undef, undef, undef, undef, undef, undef, undef, undef, undef, undef, undef, undef, undef, undef, undef, undef, undef, undef, undef, undef, undef, undef, undef, undef, undef, undef, undef, undef] [] w
noncomputable def s65 (x0 x1 x2 x3 : Value) (w : World) : Option (Value × World) :=
  (Qbin Try.prog Go.BinOp.add 3 x1 (Go.Value.int Go.IntKind.i64 1)).bind fun v1307 =>
  loopR s65B0 s65R0 [x0, x1, x2, x3, (Go.Value.bool false), v1307, (Go.Value.int Go.IntKind.i64 0)] w
theorem s65B4eq (x0 x1 x2 x3 x8 x9 x10 x12 : Value) (w : World) (g : Nat → Value) (d : List Deferred) : evK Try.prog 65 none (nav [1, 1, 0, 1, 0, 0, 1, 0, 0, 1, 1, 1, 1, 1, 1, 0, 1, 0, 0] (bodyOf Try.f65)) none _ (frm 141 (setL [0, 1, 2, 3, 8, 9, 10, 12] [x0, x1, x2, x3, x8, x9, x10, x12] g) d) w (projK [0, 1, 2, 3, 8, 9, 10, 12]) = s65B4 [x0, x1, x2, x3, x8, x9, x10, x12] w := by kernel_rfl
theorem s65R4x6eq (x0 x1 x2 x3 x8 x9 x10 x12 : Value) (g : Nat → Value) (w : World) : s65K8 (Exit.exit 6) (frm 141 (setL [0, 1, 2, 3, 8, 9, 10, 12] [x0, x1, x2, x3, x8, x9, x10, x12] g) []) w = s65R4 (Exit.exit 6) [x0, x1, x2, x3, x8, x9, x10, x12] w := by kernel_rfl
theorem s65R4of : ∀ (e : Exit) (xs : List Value) (w : World) (g : Nat → Value) (y : _), s65R4 e xs w = some y → s65K8 e (frm 141 (setL [0, 1, 2, 3, 8, 9, 10, 12] xs g) []) w = some y := by
  intro e xs w g y h
  unfold s65R4 at h
  split at h
  · exact (s65R4x6eq _ _ _ _ _ _ _ _ g _).trans h
  · cases h
set_option maxRecDepth 20000 in
theorem s65L4of {s0 s1 s2 s3 s4 s5 s6 s7 s8 s9 s10 s11 s12 s13 s14 s15 s16 s17 s18 s19 s20 s21 s22 s23 s24 s25 s26 s27 s28 s29 s30 s31 s32 s33 s34 s35 s36 s37 s38 s39 s40 s41 s42 s43 s44 s45 s46 s47 s48 s49 s50 s51 s52 s53 s54 s55 s56 s57 s58 s59 s60 s61 s62 s63 s64 s65 s66 s67 s68 s69 s70 s71 s72 s73 s74 s75 s76 s77 s78 s79 s80 s81 s82 s83 s84 s85 s86 s87 s88 s89 s90 s91 s92 s93 s94 s95 s96 s97 s98 s99 s100 s101 s102 s103 s104 s105 s106 s107 s108 s109 s110 s111 s112 s113 s114 s115 s116 s117 s118 s119 s120 s121 s122 s123 s124 s125 s126 s127 s128 s129 s130 s131 s132 s133 s134 s135 s136 s137 s138 s139 s140 : Value} {w : World} {r : _} (h : loopR s65B4 s65R4 [s0, s1, s2, s3, s8, s9, s10, s12] w = some r) : s65L4 [s0, s1, s2, s3, s4, s5, s6, s7, s8, s9, s10, s11, s12, s13, s14, s15, s16, s17, s18, s19, s20, s21, s22, s23, s24, s25, s26, s27, s28, s29, s30, s31, s32, s33, s34, s35, s36, s37, s38, s39, s40, s41, s42, s43, s44, s45, s46, s47, s48, s49, s50, s51, s52, s53, s54, s55, s56, s57, s58, s59, s60, s61, s62, s63, s64, s65, s66, s67, s68, s69, s70, s71, s72, s73, s74, s75, s76, s77, s78, s79, s80, s81, s82, s83, s84, s85, s86, s87, s88, s89, s90, s91, s92, s93, s94, s95, s96, s97, s98, s99, s100, s101, s102, s103, s104, s105, s106, s107, s108, s109, s110, s111, s112, s113, s114, s115, s116, s117, s118, s119, s120, s121, s122, s123, s124, s125, s126, s127, s128, s129, s130, s131, s132, s133, s134, s135, s136, s137, s138, s139, s140] [] w = some r :=
  loopN_of (B := s65B4) (R := s65R4) (n := 141) (live := [0, 1, 2, 3, 8, 9, 10, 12]) (fun xs w g y hl h => match xs, hl, h with | [x0, x1, x2, x3, x8, x9, x10, x12], _, h => (s65B4eq x0 x1 x2 x3 x8 x9 x10 x12 w g []).trans h) (by kernel_rfl) (s65R4of) (fun i => ([s0, s1, s2, s3, s4, s5, s6, s7, s8, s9, s10, s11, s12, s13, s14, s15, s16, s17, s18, s19, s20, s21, s22, s23, s24, s25, s26, s27, s28, s29, s30, s31, s32, s33, s34, s35, s36, s37, s38, s39, s40, s41, s42, s43, s44, s45, s46, s47, s48, s49, s50, s51, s52, s53, s54, s55, s56, s57, s58, s59, s60, s61, s62, s63, s64, s65, s66, s67, s68, s69, s70, s71, s72, s73, s74, s75, s76, s77, s78, s79, s80, s81, s82, s83, s84, s85, s86, s87, s88, s89, s90, s91, s92, s93, s94, s95, s96, s97, s98, s99, s100, s101, s102, s103, s104, s105, s106, s107, s108, s109, s110, s111, s112, s113, s114, s115, s116, s117, s118, s119, s120, s121, s122, s123, s124, s125, s126, s127, s128, s129, s130, s131, s132, s133, s134, s135, s136, s137, s138, s139, s140] : List Value).getD i undef) (by kernel_rfl) rfl h
theorem s65J2eq (s0 s1 s2 s3 s4 s5 s6 s7 s8 s9 s10 s11 s12 s13 s14 s15 s16 s17 s18 s19 s20 s21 s22 s23 s24 s25 s26 s27 s28 s29 s30 s31 s32 s33 s34 s35 s36 s37 s38 s39 s40 s41 s42 s43 s44 s45 s46 s47 s48 s49 s50 s51 s52 s53 s54 s55 s56 s57 s58 s59 s60 s61 s62 s63 s64 s65 s66 s67 s68 s69 s70 s71 s72 s73 s74 s75 s76 s77 s78 s79 s80 s81 s82 s83 s84 s85 s86 s87 s88 s89 s90 s91 s92 s93 s94 s95 s96 s97 s98 s99 s100 s101 s102 s103 s104 s105 s106 s107 s108 s109 s110 s111 s112 s113 s114 s115 s116 s117 s118 s119 s120 s121 s122 s123 s124 s125 s126 s127 s128 s129 s130 s131 s132 s133 s134 s135 s136 s137 s138 s139 s140 : Value) (w : World) : s65J2 [s0, s1, s2, s3, s4, s5, s6, s7, s8, s9, s10, s11, s12, s13, s14, s15, s16, s17, s18, s19, s20, s21, s22, s23, s24, s25, s26, s27, s28, s29, s30, s31, s32, s33, s34, s35, s36, s37, s38, s39, s40, s41, s42, s43, s44, s45, s46, s47, s48, s49, s50, s51, s52, s53, s54, s55, s56, s57, s58, s59, s60, s61, s62, s63, s64, s65, s66, s67, s68, s69, s70, s71, s72, s73, s74, s75, s76, s77, s78, s79, s80, s81, s82, s83, s84, s85, s86, s87, s88, s89, s90, s91, s92, s93, s94, s95, s96, s97, s98, s99, s100, s101, s102, s103, s104, s105, s106, s107, s108, s109, s110, s111, s112, s113, s114, s115, s116, s117, s118, s119, s120, s121, s122, s123, s124, s125, s126, s127, s128, s129, s130, s131, s132, s133, s134, s135, s136, s137, s138, s139, s140] [] w = s65M2raw s0 s1 s2 s3 s4 s5 s6 s7 s8 s9 s10 s11 s12 s13 s14 s15 s16 s17 s18 s19 s20 s21 s22 s23 s24 s25 s26 s27 s28 s29 s30 s31 s32 s33 s34 s35 s36 s37 s38 s39 s40 s41 s42 s43 s44 s45 s46 s47 s48 s49 s50 s51 s52 s53 s54 s55 s56 s57 s58 s59 s60 s61 s62 s63 s64 s65 s66 s67 s68 s69 s70 s71 s72 s73 s74 s75 s76 s77 s78 s79 s80 s81 s82 s83 s84 s85 s86 s87 s88 s89 s90 s91 s92 s93 s94 s95 s96 s97 s98 s99 s100 s101 s102 s103 s104 s105 s106 s107 s108 s109 s110 s111 s112 s113 s114 s115 s116 s117 s118 s119 s120 s121 s122 s123 s124 s125 s126 s127 s128 s129 s130 s131 s132 s133 s134 s135 s136 s137 s138 s139 s140 w := (show s65J2 [s0, s1, s2, s3, s4, s5, s6, s7, s8, s9, s10, s11, s12, s13, s14, s15, s16, s17, s18, s19, s20, s21, s22, s23, s24, s25, s26, s27, s28, s29, s30, s31, s32, s33, s34, s35, s36, s37, s38, s39, s40, s41, s42, s43, s44, s45, s46, s47, s48, s49, s50, s51, s52, s53, s54, s55, s56, s57, s58, s59, s60, s61, s62, s63, s64, s65, s66, s67, s68, s69, s70, s71, s72, s73, s74, s75, s76, s77, s78, s79, s80, s81, s82, s83, s84, s85, s86, s87, s88, s89, s90, s91, s92, s93, s94, s95, s96, s97, s98, s99, s100, s101, s102, s103, s104, s105, s106, s107, s108, s109, s110, s111, s112, s113, s114, s115, s116, s117, s118, s119, s120, s121, s122, s123, s124, s125, s126, s127, s128, s129, s130, s131, s132, s133, s134, s135, s136, s137, s138, s139, s140] [] w = evK Try.prog 65 none (nav [1, 1, 0, 1, 0, 0, 1, 0, 0, 1, 1, 1, 1, 1] (bodyOf Try.f65)) none _ ⟨[s0, s1, s2, s3, s4, s5, s6, s7, s8, s9, s10, s11, s12, s13, s14, s15, s16, s17, s18, s19, s20, s21, s22, s23, s24, s25, s26, s27, s28, s29, s30, s31, s32, s33, s34, s35, s36, s37, s38, s39, s40, s41, s42, s43, s44, s45, s46, s47, s48, s49, s50, s51, s52, s53, s54, s55, s56, s57, s58, s59, s60, s61, s62, s63, s64, s65, s66, s67, s68, s69, s70, s71, s72, s73, s74, s75, s76, s77, s78, s79, s80, s81, s82, s83, s84, s85, s86, s87, s88, s89, s90, s91, s92, s93, s94, s95, s96, s97, s98, s99, s100, s101, s102, s103, s104, s105, s106, s107, s108, s109, s110, s111, s112, s113, s114, s115, s116, s117, s118, s119, s120, s121, s122, s123, s124, s125, s126, s127, s128, s129, s130, s131, s132, s133, s134, s135, s136, s137, s138, s139, s140].toArray, []⟩ w s65K3 from by kernel_rfl).trans (by kernel_rfl)
theorem s65J2of {s0 s1 s2 s3 s4 s5 s6 s7 s8 s9 s10 s11 s12 s13 s14 s15 s16 s17 s18 s19 s20 s21 s22 s23 s24 s25 s26 s27 s28 s29 s30 s31 s32 s33 s34 s35 s36 s37 s38 s39 s40 s41 s42 s43 s44 s45 s46 s47 s48 s49 s50 s51 s52 s53 s54 s55 s56 s57 s58 s59 s60 s61 s62 s63 s64 s65 s66 s67 s68 s69 s70 s71 s72 s73 s74 s75 s76 s77 s78 s79 s80 s81 s82 s83 s84 s85 s86 s87 s88 s89 s90 s91 s92 s93 s94 s95 s96 s97 s98 s99 s100 s101 s102 s103 s104 s105 s106 s107 s108 s109 s110 s111 s112 s113 s114 s115 s116 s117 s118 s119 s120 s121 s122 s123 s124 s125 s126 s127 s128 s129 s130 s131 s132 s133 s134 s135 s136 s137 s138 s139 s140 : Value} {w : World} {r : _} (h : s65M2 s0 s1 s2 s3 s8 s9 s10 w = some r) : s65J2 [s0, s1, s2, s3, s4, s5, s6, s7, s8, s9, s10, s11, s12, s13, s14, s15, s16, s17, s18, s19, s20, s21, s22, s23, s24, s25, s26, s27, s28, s29, s30, s31, s32, s33, s34, s35, s36, s37, s38, s39, s40, s41, s42, s43, s44, s45, s46, s47, s48, s49, s50, s51, s52, s53, s54, s55, s56, s57, s58, s59, s60, s61, s62, s63, s64, s65, s66, s67, s68, s69, s70, s71, s72, s73, s74, s75, s76, s77, s78, s79, s80, s81, s82, s83, s84, s85, s86, s87, s88, s89, s90, s91, s92, s93, s94, s95, s96, s97, s98, s99, s100, s101, s102, s103, s104, s105, s106, s107, s108, s109, s110, s111, s112, s113, s114, s115, s116, s117, s118, s119, s120, s121, s122, s123, s124, s125, s126, s127, s128, s129, s130, s131, s132, s133, s134, s135, s136, s137, s138, s139, s140] [] w = some r :=
  ((s65J2eq s0 s1 s2 s3 s4 s5 s6 s7 s8 s9 s10 s11 s12 s13 s14 s15 s16 s17 s18 s19 s20 s21 s22 s23 s24 s25 s26 s27 s28 s29 s30 s31 s32 s33 s34 s35 s36 s37 s38 s39 s40 s41 s42 s43 s44 s45 s46 s47 s48 s49 s50 s51 s52 s53 s54 s55 s56 s57 s58 s59 s60 s61 s62 s63 s64 s65 s66 s67 s68 s69 s70 s71 s72 s73 s74 s75 s76 s77 s78 s79 s80 s81 s82 s83 s84 s85 s86 s87 s88 s89 s90 s91 s92 s93 s94 s95 s96 s97 s98 s99 s100 s101 s102 s103 s104 s105 s106 s107 s108 s109 s110 s111 s112 s113 s114 s115 s116 s117 s118 s119 s120 s121 s122 s123 s124 s125 s126 s127 s128 s129 s130 s131 s132 s133 s134 s135 s136 s137 s138 s139 s140 w).trans ((Ev.bind_mono fun (v1336 : Value) => (Ev.bind_mono fun (v1337 : Value) => (condK_mono (Ev.bind_mono fun (v1338 : Value) => (s65L4of)) id))) h))
theorem s65B3eq (x0 x1 x2 x3 x8 x9 x10 x11 : Value) (w : World) (g : Nat → Value) (d : List Deferred) : evK Try.prog 65 none (nav [1, 1, 0, 1, 0, 0, 1, 0, 0, 1, 1, 1, 1, 0, 1, 0, 1, 0, 0] (bodyOf Try.f65)) none _ (frm 141 (setL [0, 1, 2, 3, 8, 9, 10, 11] [x0, x1, x2, x3, x8, x9, x10, x11] g) d) w (projK [0, 1, 2, 3, 8, 9, 10, 11]) = s65B3 [x0, x1, x2, x3, x8, x9, x10, x11] w := by kernel_rfl
theorem s65R3x4eq (x0 x1 x2 x3 x8 x9 x10 x11 : Value) (g : Nat → Value) (w : World) : s65K7 (Exit.exit 4) (frm 141 (setL [0, 1, 2, 3, 8, 9, 10, 11] [x0, x1, x2, x3, x8, x9, x10, x11] g) []) w = s65R3x4raw x0 x1 x2 x3 x8 x9 x10 x11 g w := by kernel_rfl
theorem s65R3of : ∀ (e : Exit) (xs : List Value) (w : World) (g : Nat → Value) (y : _), s65R3 e xs w = some y → s65K7 e (frm 141 (setL [0, 1, 2, 3, 8, 9, 10, 11] xs g) []) w = some y := by
  intro e xs w g y h
  unfold s65R3 at h
  split at h
  · exact (s65R3x4eq _ _ _ _ _ _ _ _ g _).trans ((s65J2of) h)
  · cases h
set_option maxRecDepth 20000 in
theorem s65L3of {s0 s1 s2 s3 s4 s5 s6 s7 s8 s9 s10 s11 s12 s13 s14 s15 s16 s17 s18 s19 s20 s21 s22 s23 s24 s25 s26 s27 s28 s29 s30 s31 s32 s33 s34 s35 s36 s37 s38 s39 s40 s41 s42 s43 s44 s45 s46 s47 s48 s49 s50 s51 s52 s53 s54 s55 s56 s57 s58 s59 s60 s61 s62 s63 s64 s65 s66 s67 s68 s69 s70 s71 s72 s73 s74 s75 s76 s77 s78 s79 s80 s81 s82 s83 s84 s85 s86 s87 s88 s89 s90 s91 s92 s93 s94 s95 s96 s97 s98 s99 s100 s101 s102 s103 s104 s105 s106 s107 s108 s109 s110 s111 s112 s113 s114 s115 s116 s117 s118 s119 s120 s121 s122 s123 s124 s125 s126 s127 s128 s129 s130 s131 s132 s133 s134 s135 s136 s137 s138 s139 s140 : Value} {w : World} {r : _} (h : loopR s65B3 s65R3 [s0, s1, s2, s3, s8, s9, s10, s11] w = some r) : s65L3 [s0, s1, s2, s3, s4, s5, s6, s7, s8, s9, s10, s11, s12, s13, s14, s15, s16, s17, s18, s19, s20, s21, s22, s23, s24, s25, s26, s27, s28, s29, s30, s31, s32, s33, s34, s35, s36, s37, s38, s39, s40, s41, s42, s43, s44, s45, s46, s47, s48, s49, s50, s51, s52, s53, s54, s55, s56, s57, s58, s59, s60, s61, s62, s63, s64, s65, s66, s67, s68, s69, s70, s71, s72, s73, s74, s75, s76, s77, s78, s79, s80, s81, s82, s83, s84, s85, s86, s87, s88, s89, s90, s91, s92, s93, s94, s95, s96, s97, s98, s99, s100, s101, s102, s103, s104, s105, s106, s107, s108, s109, s110, s111, s112, s113, s114, s115, s116, s117, s118, s119, s120, s121, s122, s123, s124, s125, s126, s127, s128, s129, s130, s131, s132, s133, s134, s135, s136, s137, s138, s139, s140] [] w = some r :=
  loopN_of (B := s65B3) (R := s65R3) (n := 141) (live := [0, 1, 2, 3, 8, 9, 10, 11]) (fun xs w g y hl h => match xs, hl, h with | [x0, x1, x2, x3, x8, x9, x10, x11], _, h => (s65B3eq x0 x1 x2 x3 x8 x9 x10 x11 w g []).trans h) (by kernel_rfl) (s65R3of) (fun i => ([s0, s1, s2, s3, s4, s5, s6, s7, s8, s9, s10, s11, s12, s13, s14, s15, s16, s17, s18, s19, s20, s21, s22, s23, s24, s25, s26, s27, s28, s29, s30, s31, s32, s33, s34, s35, s36, s37, s38, s39, s40, s41, s42, s43, s44, s45, s46, s47, s48, s49, s50, s51, s52, s53, s54, s55, s56, s57, s58, s59, s60, s61, s62, s63, s64, s65, s66, s67, s68, s69, s70, s71, s72, s73, s74, s75, s76, s77, s78, s79, s80, s81, s82, s83, s84, s85, s86, s87, s88, s89, s90, s91, s92, s93, s94, s95, s96, s97, s98, s99, s100, s101, s102, s103, s104, s105, s106, s107, s108, s109, s110, s111, s112, s113, s114, s115, s116, s117, s118, s119, s120, s121, s122, s123, s124, s125, s126, s127, s128, s129, s130, s131, s132, s133, s134, s135, s136, s137, s138, s139, s140] : List Value).getD i undef) (by kernel_rfl) rfl h
theorem s65B1eq (x0 x1 x2 x3 x8 x9 x10 : Value) (w : World) (g : Nat → Value) (d : List Deferred) : evK Try.prog 65 none (nav [1, 1, 0, 1, 0, 0, 1, 0, 0, 0, 0, 0] (bodyOf Try.f65)) none _ (frm 141 (setL [0, 1, 2, 3, 8, 9, 10] [x0, x1, x2, x3, x8, x9, x10] g) d) w (projK [0, 1, 2, 3, 8, 9, 10]) = s65B1 [x0, x1, x2, x3, x8, x9, x10] w := by kernel_rfl
theorem s65R1x2eq (x0 x1 x2 x3 x8 x9 x10 : Value) (g : Nat → Value) (w : World) : s65K5 (Exit.exit 2) (frm 141 (setL [0, 1, 2, 3, 8, 9, 10] [x0, x1, x2, x3, x8, x9, x10] g) []) w = s65R1x2raw x0 x1 x2 x3 x8 x9 x10 g w := by kernel_rfl
theorem s65R1of : ∀ (e : Exit) (xs : List Value) (w : World) (g : Nat → Value) (y : _), s65R1 e xs w = some y → s65K5 e (frm 141 (setL [0, 1, 2, 3, 8, 9, 10] xs g) []) w = some y := by
  intro e xs w g y h
  unfold s65R1 at h
  split at h
  · exact (s65R1x2eq _ _ _ _ _ _ _ g _).trans ((Ev.bind_mono fun (v1320 : Value) => (condK_mono id (Ev.bind_mono fun (v1321 : Value) => (Ev.bind_mono fun (v1322 : Value) => (condK_mono id (Ev.bind_mono fun (v1323 : Value) => (Ev.bind_mono fun (v1324 : Value) => (Ev.bind_mono fun (v1325 : Value) => (Ev.bind_mono fun (v1326 : Value) => (Ev.bind_mono fun (v1327 : Value) => (Ev.bind_mono fun (v1328 : Value) => (Ev.bind_mono fun (v1329 : Value) => (Ev.bind_mono fun (r1330 : Value × World) => (Ev.bind_mono fun (v1331 : Value) => (Ev.bind_mono fun (r1332 : Value × World) => (chkK_mono (Ev.bind_mono fun (v1333 : Value) => (Ev.bind_mono fun (v1334 : Value) => (condK_mono (Ev.bind_mono fun (v1335 : Value) => (s65L3of)) (s65J2of)))))))))))))))))))) h)
  · cases h
set_option maxRecDepth 20000 in
theorem s65L1of {s0 s1 s2 s3 s4 s5 s6 s7 s8 s9 s10 s11 s12 s13 s14 s15 s16 s17 s18 s19 s20 s21 s22 s23 s24 s25 s26 s27 s28 s29 s30 s31 s32 s33 s34 s35 s36 s37 s38 s39 s40 s41 s42 s43 s44 s45 s46 s47 s48 s49 s50 s51 s52 s53 s54 s55 s56 s57 s58 s59 s60 s61 s62 s63 s64 s65 s66 s67 s68 s69 s70 s71 s72 s73 s74 s75 s76 s77 s78 s79 s80 s81 s82 s83 s84 s85 s86 s87 s88 s89 s90 s91 s92 s93 s94 s95 s96 s97 s98 s99 s100 s101 s102 s103 s104 s105 s106 s107 s108 s109 s110 s111 s112 s113 s114 s115 s116 s117 s118 s119 s120 s121 s122 s123 s124 s125 s126 s127 s128 s129 s130 s131 s132 s133 s134 s135 s136 s137 s138 s139 s140 : Value} {w : World} {r : _} (h : loopR s65B1 s65R1 [s0, s1, s2, s3, s8, s9, s10] w = some r) : s65L1 [s0, s1, s2, s3, s4, s5, s6, s7, s8, s9, s10, s11, s12, s13, s14, s15, s16, s17, s18, s19, s20, s21, s22, s23, s24, s25, s26, s27, s28, s29, s30, s31, s32, s33, s34, s35, s36, s37, s38, s39, s40, s41, s42, s43, s44, s45, s46, s47, s48, s49, s50, s51, s52, s53, s54, s55, s56, s57, s58, s59, s60, s61, s62, s63, s64, s65, s66, s67, s68, s69, s70, s71, s72, s73, s74, s75, s76, s77, s78, s79, s80, s81, s82, s83, s84, s85, s86, s87, s88, s89, s90, s91, s92, s93, s94, s95, s96, s97, s98, s99, s100, s101, s102, s103, s104, s105, s106, s107, s108, s109, s110, s111, s112, s113, s114, s115, s116, s117, s118, s119, s120, s121, s122, s123, s124, s125, s126, s127, s128, s129, s130, s131, s132, s133, s134, s135, s136, s137, s138, s139, s140] [] w = some r :=
  loopN_of (B := s65B1) (R := s65R1) (n := 141) (live := [0, 1, 2, 3, 8, 9, 10]) (fun xs w g y hl h => match xs, hl, h with | [x0, x1, x2, x3, x8, x9, x10], _, h => (s65B1eq x0 x1 x2 x3 x8 x9 x10 w g []).trans h) (by kernel_rfl) (s65R1of) (fun i => ([s0, s1, s2, s3, s4, s5, s6, s7, s8, s9, s10, s11, s12, s13, s14, s15, s16, s17, s18, s19, s20, s21, s22, s23, s24, s25, s26, s27, s28, s29, s30, s31, s32, s33, s34, s35, s36, s37, s38, s39, s40, s41, s42, s43, s44, s45, s46, s47, s48, s49, s50, s51, s52, s53, s54, s55, s56, s57, s58, s59, s60, s61, s62, s63, s64, s65, s66, s67, s68, s69, s70, s71, s72, s73, s74, s75, s76, s77, s78, s79, s80, s81, s82, s83, s84, s85, s86, s87, s88, s89, s90, s91, s92, s93, s94, s95, s96, s97, s98, s99, s100, s101, s102, s103, s104, s105, s106, s107, s108, s109, s110, s111, s112, s113, s114, s115, s116, s117, s118, s119, s120, s121, s122, s123, s124, s125, s126, s127, s128, s129, s130, s131, s132, s133, s134, s135, s136, s137, s138, s139, s140] : List Value).getD i undef) (by kernel_rfl) rfl h
theorem s65B0eq (x0 x1 x2 x3 x8 x9 x10 : Value) (w : World) (g : Nat → Value) (d : List Deferred) : evK Try.prog 65 none (nav [1, 1, 0, 1, 0, 0] (bodyOf Try.f65)) none _ (frm 141 (setL [0, 1, 2, 3, 8, 9, 10] [x0, x1, x2, x3, x8, x9, x10] g) d) w (projK [0, 1, 2, 3, 8, 9, 10]) = s65B0raw g d [x0, x1, x2, x3, x8, x9, x10] w := by kernel_rfl
theorem s65R0x0eq (x0 x1 x2 x3 x8 x9 x10 : Value) (g : Nat → Value) (w : World) : s65K1 (Exit.exit 0) (frm 141 (setL [0, 1, 2, 3, 8, 9, 10] [x0, x1, x2, x3, x8, x9, x10] g) []) w = s65R0 (Exit.exit 0) [x0, x1, x2, x3, x8, x9, x10] w := by kernel_rfl
theorem s65R0ret_eq (x0 x1 x2 x3 x8 x9 x10 : Value) (g : Nat → Value) (w : World) : s65K1 Exit.ret (frm 141 (setL [0, 1, 2, 3, 8, 9, 10] [x0, x1, x2, x3, x8, x9, x10] g) []) w = s65R0 Exit.ret [x0, x1, x2, x3, x8, x9, x10] w := by kernel_rfl
theorem s65R0of : ∀ (e : Exit) (xs : List Value) (w : World) (g : Nat → Value) (y : _), s65R0 e xs w = some y → s65K1 e (frm 141 (setL [0, 1, 2, 3, 8, 9, 10] xs g) []) w = some y := by
  intro e xs w g y h
  unfold s65R0 at h
  split at h
  · exact (s65R0x0eq _ _ _ _ _ _ _ g _).trans h
  · exact (s65R0ret_eq _ _ _ _ _ _ _ g _).trans h
  · cases h
set_option maxRecDepth 20000 in
theorem s65L0of {s0 s1 s2 s3 s4 s5 s6 s7 s8 s9 s10 s11 s12 s13 s14 s15 s16 s17 s18 s19 s20 s21 s22 s23 s24 s25 s26 s27 s28 s29 s30 s31 s32 s33 s34 s35 s36 s37 s38 s39 s40 s41 s42 s43 s44 s45 s46 s47 s48 s49 s50 s51 s52 s53 s54 s55 s56 s57 s58 s59 s60 s61 s62 s63 s64 s65 s66 s67 s68 s69 s70 s71 s72 s73 s74 s75 s76 s77 s78 s79 s80 s81 s82 s83 s84 s85 s86 s87 s88 s89 s90 s91 s92 s93 s94 s95 s96 s97 s98 s99 s100 s101 s102 s103 s104 s105 s106 s107 s108 s109 s110 s111 s112 s113 s114 s115 s116 s117 s118 s119 s120 s121 s122 s123 s124 s125 s126 s127 s128 s129 s130 s131 s132 s133 s134 s135 s136 s137 s138 s139 s140 : Value} {w : World} {r : _} (h : loopR s65B0 s65R0 [s0, s1, s2, s3, s8, s9, s10] w = some r) : s65L0 [s0, s1, s2, s3, s4, s5, s6, s7, s8, s9, s10, s11, s12, s13, s14, s15, s16, s17, s18, s19, s20, s21, s22, s23, s24, s25, s26, s27, s28, s29, s30, s31, s32, s33, s34, s35, s36, s37, s38, s39, s40, s41, s42, s43, s44, s45, s46, s47, s48, s49, s50, s51, s52, s53, s54, s55, s56, s57, s58, s59, s60, s61, s62, s63, s64, s65, s66, s67, s68, s69, s70, s71, s72, s73, s74, s75, s76, s77, s78, s79, s80, s81, s82, s83, s84, s85, s86, s87, s88, s89, s90, s91, s92, s93, s94, s95, s96, s97, s98, s99, s100, s101, s102, s103, s104, s105, s106, s107, s108, s109, s110, s111, s112, s113, s114, s115, s116, s117, s118, s119, s120, s121, s122, s123, s124, s125, s126, s127, s128, s129, s130, s131, s132, s133, s134, s135, s136, s137, s138, s139, s140] [] w = some r :=
  loopN_of (B := s65B0) (R := s65R0) (n := 141) (live := [0, 1, 2, 3, 8, 9, 10]) (fun xs w g y hl h => match xs, hl, h with | [x0, x1, x2, x3, x8, x9, x10], _, h => (s65B0eq x0 x1 x2 x3 x8 x9 x10 w g []).trans (show s65B0raw g [] [x0, x1, x2, x3, x8, x9, x10] w = some y from (Ev.bind_mono fun (v1308 : Value) => (condK_mono (s65L1of) id)) h)) (by kernel_rfl) (s65R0of) (fun i => ([s0, s1, s2, s3, s4, s5, s6, s7, s8, s9, s10, s11, s12, s13, s14, s15, s16, s17, s18, s19, s20, s21, s22, s23, s24, s25, s26, s27, s28, s29, s30, s31, s32, s33, s34, s35, s36, s37, s38, s39, s40, s41, s42, s43, s44, s45, s46, s47, s48, s49, s50, s51, s52, s53, s54, s55, s56, s57, s58, s59, s60, s61, s62, s63, s64, s65, s66, s67, s68, s69, s70, s71, s72, s73, s74, s75, s76, s77, s78, s79, s80, s81, s82, s83, s84, s85, s86, s87, s88, s89, s90, s91, s92, s93, s94, s95, s96, s97, s98, s99, s100, s101, s102, s103, s104, s105, s106, s107, s108, s109, s110, s111, s112, s113, s114, s115, s116, s117, s118, s119, s120, s121, s122, s123, s124, s125, s126, s127, s128, s129, s130, s131, s132, s133, s134, s135, s136, s137, s138, s139, s140] : List Value).getD i undef) (by kernel_rfl) rfl h
theorem s65eq (x0 x1 x2 x3 : Value) (w : World) : evK Try.prog 65 none (bodyOf Try.f65) none _ { tmps := (([x0, x1, x2, x3] : List Value) ++ List.replicate (141 - 4) undef).toArray, defers := [] } w (leaveK Try.prog Try.f65) = s65raw x0 x1 x2 x3 w := by kernel_rfl
theorem c65 {x0 x1 x2 x3 : Value} {w : World} {r : Value × World} (h : s65 x0 x1 x2 x3 w = some r) : C Try.prog 65 #[x0, x1, x2, x3] w = some r :=
  C_ev follows_all drawLaw (by kernel_rfl) Try.func65 (by rfl) ((s65eq x0 x1 x2 x3 w).trans (show s65raw x0 x1 x2 x3 w = some r from (Ev.bind_mono fun (v1307 : Value) => (s65L0of)) h))
theorem e65 {x0 x1 x2 x3 : Value} {w : World} {Q : Value × World → Prop} (h : Brings (s65 x0 x1 x2 x3 w) Q) : Brings (Xcall Try.prog (Value.func (Fn.func 65) #[] #[]) #[x0, x1, x2, x3] w) Q :=
  h.call (Xcall_fn Try.func65 (by decide +kernel) (by rfl) _ _ _ w) fun _ h => c65 h

/-! slices.partitionEqualCmpFunc[lychgate/table.row[lychgate/api.Tuple, int]] -/
noncomputable def s66K0 : Exit → Act → World → Option (Value × World) := seqK (fun a w => evK Try.prog 66 none (nav [1, 1, 1, 1] (bodyOf Try.f66)) none _ a w (leaveK Try.prog Try.f66)) (leaveK Try.prog Try.f66)
noncomputable def s66K1 : Exit → Act → World → Option (Value × World) := blockK 0 s66K0
noncomputable def s66L0 (s : List Value) (d : List Deferred) (w : World) : Option (Value × World) := loopN Try.prog 66 none (nav [1, 1, 1, 0, 0, 0] (bodyOf Try.f66)) s66K1 s d w
noncomputable def s66K2 : Exit → Act → World → Option (Exit × List Value × World) := blockK 1 (projK [0, 1, 4, 11, 12])
noncomputable def s66K3 : Exit → Act → World → Option (Exit × List Value × World) := seqK (fun a w => evK Try.prog 66 none (nav [1, 1, 1, 0, 0, 0, 0, 1] (bodyOf Try.f66)) none _ a w s66K2) s66K2
noncomputable def s66K4 : Exit → Act → World → Option (Exit × List Value × World) := blockK 2 s66K3
noncomputable def s66L1 (s : List Value) (d : List Deferred) (w : World) : Option (Exit × List Value × World) := loopN Try.prog 66 none (nav [1, 1, 1, 0, 0, 0, 0, 0, 0, 0] (bodyOf Try.f66)) s66K4 s d w
noncomputable def s66K5 : Exit → Act → World → Option (Exit × List Value × World) := seqK (fun a w => evK Try.prog 66 none (nav [1, 1, 1, 0, 0, 0, 0, 1, 1] (bodyOf Try.f66)) none _ a w s66K2) s66K2
noncomputable def s66K6 : Exit → Act → World → Option (Exit × List Value × World) := blockK 4 s66K5
noncomputable def s66L2 (s : List Value) (d : List Deferred) (w : World) : Option (Exit × List Value × World) := loopN Try.prog 66 none (nav [1, 1, 1, 0, 0, 0, 0, 1, 0, 0, 0] (bodyOf Try.f66)) s66K6 s d w
noncomputable def s66B2 : List Value → World → Option (Exit × List Value × World)
  | [x0, x1, x4, x11, x12], w =>
    (Qbin Try.prog Go.BinOp.leq 3 x11 x12).bind fun v1401 =>
    (guardQ v1401 true (QindexAddr Try.prog 62 (gv (isB v1401 true) x0) (gv (isB v1401 true) x1) w.drew)).bind fun v1402 =>
    (guardQ v1401 true (Qload Try.prog 73 v1402 w.drew)).bind fun v1403 =>
    (guardQ v1401 true (QindexAddr Try.prog 62 (gv (isB v1401 true) x0) (gv (isB v1401 true) x12) w.drew)).bind fun v1404 =>
    (guardQ v1401 true (Qload Try.prog 73 v1404 w.drew)).bind fun v1405 =>
    (guardX v1401 true w.drew (Xcall Try.prog (gv (isB v1401 true) x4) #[v1403, v1405] w.drew)).bind fun r1406 =>
    (guardQ v1401 true (Qbin Try.prog Go.BinOp.lss 3 r1406.1 (Go.Value.int Go.IntKind.i64 0))).bind fun v1407 =>
    (Qpick v1401 v1407 (Go.Value.bool false)).bind fun v1408 =>
    chkK True (
      condK v1408 (
        (Qbin Try.prog Go.BinOp.sub 3 x12 (Go.Value.int Go.IntKind.i64 1)).bind fun v1409 =>
        some (Exit.normal, [x0, x1, x4, x11, v1409], r1406.2)
      ) (
        some ((Exit.exit 4), [x0, x1, x4, x11, x12], r1406.2)
      )
    )
  | _, _ => none
noncomputable def s66R2 : Exit → List Value → World → Option (Exit × List Value × World)
  | (Exit.exit 4), [x0, x1, x4, x11, x12], w =>
    (Qbin Try.prog Go.BinOp.gtr 3 x11 x12).bind fun v1410 =>
    condK v1410 (
      some ((Exit.exit 0), [x0, x1, x4, x11, x12], w)
    ) (
      (QindexAddr Try.prog 62 x0 x12 w.drew).bind fun v1411 =>
      (Qload Try.prog 73 v1411 w.drew).bind fun v1412 =>
      (QindexAddr Try.prog 62 x0 x11 w.drew).bind fun v1413 =>
      (Qload Try.prog 73 v1413 w.drew).bind fun v1414 =>
      (QindexAddr Try.prog 62 x0 x11 w.drew).bind fun v1415 =>
      (Xstore Try.prog 73 v1415 v1412 w.drew).bind fun r1416 =>
      (QindexAddr Try.prog 62 x0 x12 r1416.2).bind fun v1417 =>
      (Xstore Try.prog 73 v1417 v1414 r1416.2).bind fun r1418 =>
      chkK True (
        (Qbin Try.prog Go.BinOp.add 3 x11 (Go.Value.int Go.IntKind.i64 1)).bind fun v1419 =>
        (Qbin Try.prog Go.BinOp.sub 3 x12 (Go.Value.int Go.IntKind.i64 1)).bind fun v1420 =>
        some (Exit.normal, [x0, x1, x4, v1419, v1420], r1418.2)
      )
    )
  | _, _, _ => none
noncomputable def s66B1 : List Value → World → Option (Exit × List Value × World)
  | [x0, x1, x4, x11, x12], w =>
    (Qbin Try.prog Go.BinOp.leq 3 x11 x12).bind fun v1391 =>
    (guardQ v1391 true (QindexAddr Try.prog 62 (gv (isB v1391 true) x0) (gv (isB v1391 true) x1) w.drew)).bind fun v1392 =>
    (guardQ v1391 true (Qload Try.prog 73 v1392 w.drew)).bind fun v1393 =>
    (guardQ v1391 true (QindexAddr Try.prog 62 (gv (isB v1391 true) x0) (gv (isB v1391 true) x11) w.drew)).bind fun v1394 =>
    (guardQ v1391 true (Qload Try.prog 73 v1394 w.drew)).bind fun v1395 =>
    (guardX v1391 true w.drew (Xcall Try.prog (gv (isB v1391 true) x4) #[v1393, v1395] w.drew)).bind fun r1396 =>
    (guardQ v1391 true (Qbin Try.prog Go.BinOp.lss 3 r1396.1 (Go.Value.int Go.IntKind.i64 0))).bind fun v1397 =>
    (guardQ v1391 true (Qun Go.UnOp.not v1397)).bind fun v1398 =>
    (Qpick v1391 v1398 (Go.Value.bool false)).bind fun v1399 =>
    chkK True (
      condK v1399 (
        (Qbin Try.prog Go.BinOp.add 3 x11 (Go.Value.int Go.IntKind.i64 1)).bind fun v1400 =>
        some (Exit.normal, [x0, x1, x4, v1400, x12], r1396.2)
      ) (
        some ((Exit.exit 2), [x0, x1, x4, x11, x12], r1396.2)
      )
    )
  | _, _ => none
noncomputable def s66R1 : Exit → List Value → World → Option (Exit × List Value × World)
  | (Exit.exit 2), [x0, x1, x4, x11, x12], w =>
    loopR s66B2 s66R2 [x0, x1, x4, x11, x12] w
  | _, _, _ => none
noncomputable def s66R1x2raw (x0 x1 x4 x11 x12 : Value) (g : Nat → Value) (w : World) : Option (Exit × List Value × World) :=
  s66L2 [x0, x1, (g 2), (g 3), x4, (g 5), (g 6), (g 7), (g 8), (g 9), (g 10), x11, x12, (g 13), (g 14), (g 15), (g 16), (g 17), (g 18), (g 19), (g 20), (g 21), (g 22), (g 23), (g 24), (g 25), (g 26), (g 27), (g 28), (g 29), (g 30), (g 31), (g 32), (g 33), (g 34), (g 35), (g 36), (g 37), (g 38), (g 39), (g 40), (g 41), (g 42), (g 43), (g 44), (g 45), (g 46), (g 47), (g 48), (g 49), (g 50), (g 51), (g 52), (g 53), (g 54), (g 55), (g 56), (g 57), (g 58), (g 59), (g 60), (g 61), (g 62), (g 63), (g 64), (g 65), (g 66), (g 67), (g 68), (g 69), (g 70), (g 71), (g 72), (g 73), (g 74), (g 75), (g 76), (g 77), (g 78), (g 79), (g 80), (g 81), (g 82), (g 83), (g 84), (g 85), (g 86), (g 87), (g 88), (g 89)] [] w
noncomputable def s66B0raw (g : Nat → Value) (d : List Deferred) : List Value → World → Option (Exit × List Value × World)
  | [x0, x1, x4, x11, x12], w =>
    s66L1 [x0, x1, (g 2), (g 3), x4, (g 5), (g 6), (g 7), (g 8), (g 9), (g 10), x11, x12, (g 13), (g 14), (g 15), (g 16), (g 17), (g 18), (g 19), (g 20), (g 21), (g 22), (g 23), (g 24), (g 25), (g 26), (g 27), (g 28), (g 29), (g 30), (g 31), (g 32), (g 33), (g 34), (g 35), (g 36), (g 37), (g 38), (g 39), (g 40), (g 41), (g 42), (g 43), (g 44), (g 45), (g 46), (g 47), (g 48), (g 49), (g 50), (g 51), (g 52), (g 53), (g 54), (g 55), (g 56), (g 57), (g 58), (g 59), (g 60), (g 61), (g 62), (g 63), (g 64), (g 65), (g 66), (g 67), (g 68), (g 69), (g 70), (g 71), (g 72), (g 73), (g 74), (g 75), (g 76), (g 77), (g 78), (g 79), (g 80), (g 81), (g 82), (g 83), (g 84), (g 85), (g 86), (g 87), (g 88), (g 89)] d w
  | _, _ => none
noncomputable def s66B0 : List Value → World → Option (Exit × List Value × World)
  | [x0, x1, x4, x11, x12], w =>
    loopR s66B1 s66R1 [x0, x1, x4, x11, x12] w
  | _, _ => none
noncomputable def s66R0 : Exit → List Value → World → Option (Value × World)
  | (Exit.exit 0), [_, _, _, x11, _], w =>
    some (x11, w)
  | _, _, _ => none
noncomputable def s66raw (x0 x1 x2 x3 x4 : Value) (w : World) : Option (Value × World) :=
  (QindexAddr Try.prog 62 x0 x3 w.drew).bind fun v1381 =>
  (Qload Try.prog 73 v1381 w.drew).bind fun v1382 =>
  (QindexAddr Try.prog 62 x0 x1 w.drew).bind fun v1383 =>
  (Qload Try.prog 73 v1383 w.drew).bind fun v1384 =>
  (QindexAddr Try.prog 62 x0 x1 w.drew).bind fun v1385 =>
  (Xstore Try.prog 73 v1385 v1382 w.drew).bind fun r1386 =>
  (QindexAddr Try.prog 62 x0 x3 r1386.2).bind fun v1387 =>
  (Xstore Try.prog 73 v1387 v1384 r1386.2).bind fun r1388 =>
  chkK True (
    (Qbin Try.prog Go.BinOp.add 3 x1 (Go.Value.int Go.IntKind.i64 1)).bind fun v1389 =>
    (Qbin Try.prog Go.BinOp.sub 3 x2 (Go.Value.int Go.IntKind.i64 1)).bind fun v1390 =>
    s66L0 [x0, x1, x2, x3, x4, undef, undef, undef, undef, undef, (Go.Value.int Go.IntKind.i64 0), v1389, v1390, x0, x1, x0, x3, x0, x3, v1381, v1382, x0, x1, v1383, v1384, v1385, v1387, x1, v1389, x2, v1390, undef, undef, undef, undef, undef, undef, undef, undef, undef, undef, undef, undef, undef, undef, undef, undef, undef, undef, undef, undef, undef, undef, undef, undef, undef, undef, undef, undef, undef, undef, undef, undef, undef, undef, undef, undef, undef, undef, undef, undef, undef, undef, undef, undef, undef, undef, undef, undef, undef, undef, undef, undef, undef, undef, undef, undef, undef, undef, undef] [] r1388.2
  )
noncomputable def s66 (x0 x1 x2 x3 x4 : Value) (w : World) : Option (Value × World) :=
  (QindexAddr Try.prog 62 x0 x3 w.drew).bind fun v1381 =>
  (Qload Try.prog 73 v1381 w.drew).bind fun v1382 =>
  (QindexAddr Try.prog 62 x0 x1 w.drew).bind fun v1383 =>
  (Qload Try.prog 73 v1383 w.drew).bind fun v1384 =>
  (QindexAddr Try.prog 62 x0 x1 w.drew).bind fun v1385 =>
  (Xstore Try.prog 73 v1385 v1382 w.drew).bind fun r1386 =>
  (QindexAddr Try.prog 62 x0 x3 r1386.2).bind fun v1387 =>
  (Xstore Try.prog 73 v1387 v1384 r1386.2).bind fun r1388 =>
  chkK True (
    (Qbin Try.prog Go.BinOp.add 3 x1 (Go.Value.int Go.IntKind.i64 1)).bind fun v1389 =>
    (Qbin Try.prog Go.BinOp.sub 3 x2 (Go.Value.int Go.IntKind.i64 1)).bind fun v1390 =>
    loopR s66B0 s66R0 [x0, x1, x4, v1389, v1390] r1388.2
  )
theorem s66B2eq (x0 x1 x4 x11 x12 : Value) (w : World) (g : Nat → Value) (d : List Deferred) : evK Try.prog 66 none (nav [1, 1, 1, 0, 0, 0, 0, 1, 0, 0, 0] (bodyOf Try.f66)) none _ (frm 90 (setL [0, 1, 4, 11, 12] [x0, x1, x4, x11, x12] g) d) w (projK [0, 1, 4, 11, 12]) = s66B2 [x0, x1, x4, x11, x12] w := by kernel_rfl
theorem s66R2x4eq (x0 x1 x4 x11 x12 : Value) (g : Nat → Value) (w : World) : s66K6 (Exit.exit 4) (frm 90 (setL [0, 1, 4, 11, 12] [x0, x1, x4, x11, x12] g) []) w = s66R2 (Exit.exit 4) [x0, x1, x4, x11, x12] w := by kernel_rfl
theorem s66R2of : ∀ (e : Exit) (xs : List Value) (w : World) (g : Nat → Value) (y : _), s66R2 e xs w = some y → s66K6 e (frm 90 (setL [0, 1, 4, 11, 12] xs g) []) w = some y := by
  intro e xs w g y h
  unfold s66R2 at h
  split at h
  · exact (s66R2x4eq _ _ _ _ _ g _).trans h
  · cases h
set_option maxRecDepth 20000 in
theorem s66L2of {s0 s1 s2 s3 s4 s5 s6 s7 s8 s9 s10 s11 s12 s13 s14 s15 s16 s17 s18 s19 s20 s21 s22 s23 s24 s25 s26 s27 s28 s29 s30 s31 s32 s33 s34 s35 s36 s37 s38 s39 s40 s41 s42 s43 s44 s45 s46 s47 s48 s49 s50 s51 s52 s53 s54 s55 s56 s57 s58 s59 s60 s61 s62 s63 s64 s65 s66 s67 s68 s69 s70 s71 s72 s73 s74 s75 s76 s77 s78 s79 s80 s81 s82 s83 s84 s85 s86 s87 s88 s89 : Value} {w : World} {r : _} (h : loopR s66B2 s66R2 [s0, s1, s4, s11, s12] w = some r) : s66L2 [s0, s1, s2, s3, s4, s5, s6, s7, s8, s9, s10, s11, s12, s13, s14, s15, s16, s17, s18, s19, s20, s21, s22, s23, s24, s25, s26, s27, s28, s29, s30, s31, s32, s33, s34, s35, s36, s37, s38, s39, s40, s41, s42, s43, s44, s45, s46, s47, s48, s49, s50, s51, s52, s53, s54, s55, s56, s57, s58, s59, s60, s61, s62, s63, s64, s65, s66, s67, s68, s69, s70, s71, s72, s73, s74, s75, s76, s77, s78, s79, s80, s81, s82, s83, s84, s85, s86, s87, s88, s89] [] w = some r :=
  loopN_of (B := s66B2) (R := s66R2) (n := 90) (live := [0, 1, 4, 11, 12]) (fun xs w g y hl h => match xs, hl, h with | [x0, x1, x4, x11, x12], _, h => (s66B2eq x0 x1 x4 x11 x12 w g []).trans h) (by kernel_rfl) (s66R2of) (fun i => ([s0, s1, s2, s3, s4, s5, s6, s7, s8, s9, s10, s11, s12, s13, s14, s15, s16, s17, s18, s19, s20, s21, s22, s23, s24, s25, s26, s27, s28, s29, s30, s31, s32, s33, s34, s35, s36, s37, s38, s39, s40, s41, s42, s43, s44, s45, s46, s47, s48, s49, s50, s51, s52, s53, s54, s55, s56, s57, s58, s59, s60, s61, s62, s63, s64, s65, s66, s67, s68, s69, s70, s71, s72, s73, s74, s75, s76, s77, s78, s79, s80, s81, s82, s83, s84, s85, s86, s87, s88, s89] : List Value).getD i undef) (by kernel_rfl) rfl h
theorem s66B1eq (x0 x1 x4 x11 x12 : Value) (w : World) (g : Nat → Value) (d : List Deferred) : evK Try.prog 66 none (nav [1, 1, 1, 0, 0, 0, 0, 0, 0, 0] (bodyOf Try.f66)) none _ (frm 90 (setL [0, 1, 4, 11, 12] [x0, x1, x4, x11, x12] g) d) w (projK [0, 1, 4, 11, 12]) = s66B1 [x0, x1, x4, x11, x12] w := by kernel_rfl
theorem s66R1x2eq (x0 x1 x4 x11 x12 : Value) (g : Nat → Value) (w : World) : s66K4 (Exit.exit 2) (frm 90 (setL [0, 1, 4, 11, 12] [x0, x1, x4, x11, x12] g) []) w = s66R1x2raw x0 x1 x4 x11 x12 g w := by kernel_rfl
theorem s66R1of : ∀ (e : Exit) (xs : List Value) (w : World) (g : Nat → Value) (y : _), s66R1 e xs w = some y → s66K4 e (frm 90 (setL [0, 1, 4, 11, 12] xs g) []) w = some y := by
  intro e xs w g y h
  unfold s66R1 at h
  split at h
  · exact (s66R1x2eq _ _ _ _ _ g _).trans ((s66L2of) h)
  · cases h
set_option maxRecDepth 20000 in
theorem s66L1of {s0 s1 s2 s3 s4 s5 s6 s7 s8 s9 s10 s11 s12 s13 s14 s15 s16 s17 s18 s19 s20 s21 s22 s23 s24 s25 s26 s27 s28 s29 s30 s31 s32 s33 s34 s35 s36 s37 s38 s39 s40 s41 s42 s43 s44 s45 s46 s47 s48 s49 s50 s51 s52 s53 s54 s55 s56 s57 s58 s59 s60 s61 s62 s63 s64 s65 s66 s67 s68 s69 s70 s71 s72 s73 s74 s75 s76 s77 s78 s79 s80 s81 s82 s83 s84 s85 s86 s87 s88 s89 : Value} {w : World} {r : _} (h : loopR s66B1 s66R1 [s0, s1, s4, s11, s12] w = some r) : s66L1 [s0, s1, s2, s3, s4, s5, s6, s7, s8, s9, s10, s11, s12, s13, s14, s15, s16, s17, s18, s19, s20, s21, s22, s23, s24, s25, s26, s27, s28, s29, s30, s31, s32, s33, s34, s35, s36, s37, s38, s39, s40, s41, s42, s43, s44, s45, s46, s47, s48, s49, s50, s51, s52, s53, s54, s55, s56, s57, s58, s59, s60, s61, s62, s63, s64, s65, s66, s67, s68, s69, s70, s71, s72, s73, s74, s75, s76, s77, s78, s79, s80, s81, s82, s83, s84, s85, s86, s87, s88, s89] [] w = some r :=
  loopN_of (B := s66B1) (R := s66R1) (n := 90) (live := [0, 1, 4, 11, 12]) (fun xs w g y hl h => match xs, hl, h with | [x0, x1, x4, x11, x12], _, h => (s66B1eq x0 x1 x4 x11 x12 w g []).trans h) (by kernel_rfl) (s66R1of) (fun i => ([s0, s1, s2, s3, s4, s5, s6, s7, s8, s9, s10, s11, s12, s13, s14, s15, s16, s17, s18, s19, s20, s21, s22, s23, s24, s25, s26, s27, s28, s29, s30, s31, s32, s33, s34, s35, s36, s37, s38, s39, s40, s41, s42, s43, s44, s45, s46, s47, s48, s49, s50, s51, s52, s53, s54, s55, s56, s57, s58, s59, s60, s61, s62, s63, s64, s65, s66, s67, s68, s69, s70, s71, s72, s73, s74, s75, s76, s77, s78, s79, s80, s81, s82, s83, s84, s85, s86, s87, s88, s89] : List Value).getD i undef) (by kernel_rfl) rfl h
theorem s66B0eq (x0 x1 x4 x11 x12 : Value) (w : World) (g : Nat → Value) (d : List Deferred) : evK Try.prog 66 none (nav [1, 1, 1, 0, 0, 0] (bodyOf Try.f66)) none _ (frm 90 (setL [0, 1, 4, 11, 12] [x0, x1, x4, x11, x12] g) d) w (projK [0, 1, 4, 11, 12]) = s66B0raw g d [x0, x1, x4, x11, x12] w := by kernel_rfl
theorem s66R0x0eq (x0 x1 x4 x11 x12 : Value) (g : Nat → Value) (w : World) : s66K1 (Exit.exit 0) (frm 90 (setL [0, 1, 4, 11, 12] [x0, x1, x4, x11, x12] g) []) w = s66R0 (Exit.exit 0) [x0, x1, x4, x11, x12] w := by kernel_rfl
theorem s66R0of : ∀ (e : Exit) (xs : List Value) (w : World) (g : Nat → Value) (y : _), s66R0 e xs w = some y → s66K1 e (frm 90 (setL [0, 1, 4, 11, 12] xs g) []) w = some y := by
  intro e xs w g y h
  unfold s66R0 at h
  split at h
  · exact (s66R0x0eq _ _ _ _ _ g _).trans h
  · cases h
set_option maxRecDepth 20000 in
theorem s66L0of {s0 s1 s2 s3 s4 s5 s6 s7 s8 s9 s10 s11 s12 s13 s14 s15 s16 s17 s18 s19 s20 s21 s22 s23 s24 s25 s26 s27 s28 s29 s30 s31 s32 s33 s34 s35 s36 s37 s38 s39 s40 s41 s42 s43 s44 s45 s46 s47 s48 s49 s50 s51 s52 s53 s54 s55 s56 s57 s58 s59 s60 s61 s62 s63 s64 s65 s66 s67 s68 s69 s70 s71 s72 s73 s74 s75 s76 s77 s78 s79 s80 s81 s82 s83 s84 s85 s86 s87 s88 s89 : Value} {w : World} {r : _} (h : loopR s66B0 s66R0 [s0, s1, s4, s11, s12] w = some r) : s66L0 [s0, s1, s2, s3, s4, s5, s6, s7, s8, s9, s10, s11, s12, s13, s14, s15, s16, s17, s18, s19, s20, s21, s22, s23, s24, s25, s26, s27, s28, s29, s30, s31, s32, s33, s34, s35, s36, s37, s38, s39, s40, s41, s42, s43, s44, s45, s46, s47, s48, s49, s50, s51, s52, s53, s54, s55, s56, s57, s58, s59, s60, s61, s62, s63, s64, s65, s66, s67, s68, s69, s70, s71, s72, s73, s74, s75, s76, s77, s78, s79, s80, s81, s82, s83, s84, s85, s86, s87, s88, s89] [] w = some r :=
  loopN_of (B := s66B0) (R := s66R0) (n := 90) (live := [0, 1, 4, 11, 12]) (fun xs w g y hl h => match xs, hl, h with | [x0, x1, x4, x11, x12], _, h => (s66B0eq x0 x1 x4 x11 x12 w g []).trans (show s66B0raw g [] [x0, x1, x4, x11, x12] w = some y from (s66L1of) h)) (by kernel_rfl) (s66R0of) (fun i => ([s0, s1, s2, s3, s4, s5, s6, s7, s8, s9, s10, s11, s12, s13, s14, s15, s16, s17, s18, s19, s20, s21, s22, s23, s24, s25, s26, s27, s28, s29, s30, s31, s32, s33, s34, s35, s36, s37, s38, s39, s40, s41, s42, s43, s44, s45, s46, s47, s48, s49, s50, s51, s52, s53, s54, s55, s56, s57, s58, s59, s60, s61, s62, s63, s64, s65, s66, s67, s68, s69, s70, s71, s72, s73, s74, s75, s76, s77, s78, s79, s80, s81, s82, s83, s84, s85, s86, s87, s88, s89] : List Value).getD i undef) (by kernel_rfl) rfl h
theorem s66eq (x0 x1 x2 x3 x4 : Value) (w : World) : evK Try.prog 66 none (bodyOf Try.f66) none _ { tmps := (([x0, x1, x2, x3, x4] : List Value) ++ List.replicate (90 - 5) undef).toArray, defers := [] } w (leaveK Try.prog Try.f66) = s66raw x0 x1 x2 x3 x4 w := by kernel_rfl
theorem c66 {x0 x1 x2 x3 x4 : Value} {w : World} {r : Value × World} (h : s66 x0 x1 x2 x3 x4 w = some r) : C Try.prog 66 #[x0, x1, x2, x3, x4] w = some r :=
  C_ev follows_all drawLaw (by kernel_rfl) Try.func66 (by rfl) ((s66eq x0 x1 x2 x3 x4 w).trans (show s66raw x0 x1 x2 x3 x4 w = some r from (Ev.bind_mono fun (v1381 : Value) => (Ev.bind_mono fun (v1382 : Value) => (Ev.bind_mono fun (v1383 : Value) => (Ev.bind_mono fun (v1384 : Value) => (Ev.bind_mono fun (v1385 : Value) => (Ev.bind_mono fun (r1386 : Value × World) => (Ev.bind_mono fun (v1387 : Value) => (Ev.bind_mono fun (r1388 : Value × World) => (chkK_mono (Ev.bind_mono fun (v1389 : Value) => (Ev.bind_mono fun (v1390 : Value) => (s66L0of)))))))))))) h))
theorem e66 {x0 x1 x2 x3 x4 : Value} {w : World} {Q : Value × World → Prop} (h : Brings (s66 x0 x1 x2 x3 x4 w) Q) : Brings (Xcall Try.prog (Value.func (Fn.func 66) #[] #[]) #[x0, x1, x2, x3, x4] w) Q :=
  h.call (Xcall_fn Try.func66 (by decide +kernel) (by rfl) _ _ _ w) fun _ h => c66 h

end Go.Proofs.Ytcibkmahibnjeaa
