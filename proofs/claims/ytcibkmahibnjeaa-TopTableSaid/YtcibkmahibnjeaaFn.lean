/- The functions of the program, by their texts. -/
import Derived.Test.YtcibkmahibnjeaaFp2
namespace Go.Proofs.Ytcibkmahibnjeaa
open Go Go.Ev
open Go.Proofs
/-! slices.partitionCmpFunc[lychgate/table.row[lychgate/api.Tuple, int]] -/
noncomputable def s67K0 : Exit → Act → World → Option (Value × World) := seqK (fun a w => evK Try.prog 67 none (nav [1, 1, 1, 1] (bodyOf Try.f67)) none _ a w (leaveK Try.prog Try.f67)) (leaveK Try.prog Try.f67)
noncomputable def s67K1 : Exit → Act → World → Option (Value × World) := blockK 0 s67K0
noncomputable def s67L0 (s : List Value) (d : List Deferred) (w : World) : Option (Value × World) := loopN Try.prog 67 none (nav [1, 1, 1, 0, 0, 0] (bodyOf Try.f67)) s67K1 s d w
noncomputable def s67K2 : Exit → Act → World → Option (Value × World) := seqK (fun a w => evK Try.prog 67 none (nav [1, 1, 1, 1, 1] (bodyOf Try.f67)) none _ a w (leaveK Try.prog Try.f67)) (leaveK Try.prog Try.f67)
noncomputable def s67K3 : Exit → Act → World → Option (Value × World) := blockK 2 s67K2
noncomputable def s67L1 (s : List Value) (d : List Deferred) (w : World) : Option (Value × World) := loopN Try.prog 67 none (nav [1, 1, 1, 1, 0, 0, 0] (bodyOf Try.f67)) s67K3 s d w
noncomputable def s67K4 : Exit → Act → World → Option (Value × World) := seqK (fun a w => evK Try.prog 67 none (nav [1, 1, 1, 1, 1, 1, 1, 1, 1, 1] (bodyOf Try.f67)) none _ a w (leaveK Try.prog Try.f67)) (leaveK Try.prog Try.f67)
noncomputable def s67K5 : Exit → Act → World → Option (Value × World) := blockK 4 s67K4
noncomputable def s67L2 (s : List Value) (d : List Deferred) (w : World) : Option (Value × World) := loopN Try.prog 67 none (nav [1, 1, 1, 1, 1, 1, 1, 1, 1, 0, 0, 0] (bodyOf Try.f67)) s67K5 s d w
noncomputable def s67K6 : Exit → Act → World → Option (Exit × List Value × World) := blockK 5 (projK [0, 1, 4, 12, 13])
noncomputable def s67K7 : Exit → Act → World → Option (Exit × List Value × World) := seqK (fun a w => evK Try.prog 67 none (nav [1, 1, 1, 1, 1, 1, 1, 1, 1, 0, 0, 0, 0, 1] (bodyOf Try.f67)) none _ a w s67K6) s67K6
noncomputable def s67K8 : Exit → Act → World → Option (Exit × List Value × World) := blockK 6 s67K7
noncomputable def s67L3 (s : List Value) (d : List Deferred) (w : World) : Option (Exit × List Value × World) := loopN Try.prog 67 none (nav [1, 1, 1, 1, 1, 1, 1, 1, 1, 0, 0, 0, 0, 0, 0, 0] (bodyOf Try.f67)) s67K8 s d w
noncomputable def s67K9 : Exit → Act → World → Option (Exit × List Value × World) := seqK (fun a w => evK Try.prog 67 none (nav [1, 1, 1, 1, 1, 1, 1, 1, 1, 0, 0, 0, 0, 1, 1] (bodyOf Try.f67)) none _ a w s67K6) s67K6
noncomputable def s67K10 : Exit → Act → World → Option (Exit × List Value × World) := blockK 8 s67K9
noncomputable def s67L4 (s : List Value) (d : List Deferred) (w : World) : Option (Exit × List Value × World) := loopN Try.prog 67 none (nav [1, 1, 1, 1, 1, 1, 1, 1, 1, 0, 0, 0, 0, 1, 0, 0, 0] (bodyOf Try.f67)) s67K10 s d w
noncomputable def s67B4 : List Value → World → Option (Exit × List Value × World)
  | [x0, x1, x4, x12, x13], w =>
    (Qbin Try.prog Go.BinOp.leq 3 x12 x13).bind fun v1486 =>
    (guardQ v1486 true (QindexAddr Try.prog 62 (gv (isB v1486 true) x0) (gv (isB v1486 true) x13) w.drew)).bind fun v1487 =>
    (guardQ v1486 true (Qload Try.prog 73 v1487 w.drew)).bind fun v1488 =>
    (guardQ v1486 true (QindexAddr Try.prog 62 (gv (isB v1486 true) x0) (gv (isB v1486 true) x1) w.drew)).bind fun v1489 =>
    (guardQ v1486 true (Qload Try.prog 73 v1489 w.drew)).bind fun v1490 =>
    (guardX v1486 true w.drew (Xcall Try.prog (gv (isB v1486 true) x4) #[v1488, v1490] w.drew)).bind fun r1491 =>
    (guardQ v1486 true (Qbin Try.prog Go.BinOp.lss 3 r1491.1 (Go.Value.int Go.IntKind.i64 0))).bind fun v1492 =>
    (guardQ v1486 true (Qun Go.UnOp.not v1492)).bind fun v1493 =>
    (Qpick v1486 v1493 (Go.Value.bool false)).bind fun v1494 =>
    chkK True (
      condK v1494 (
        (Qbin Try.prog Go.BinOp.sub 3 x13 (Go.Value.int Go.IntKind.i64 1)).bind fun v1495 =>
        some (Exit.normal, [x0, x1, x4, x12, v1495], r1491.2)
      ) (
        some ((Exit.exit 8), [x0, x1, x4, x12, x13], r1491.2)
      )
    )
  | _, _ => none
noncomputable def s67R4 : Exit → List Value → World → Option (Exit × List Value × World)
  | (Exit.exit 8), [x0, x1, x4, x12, x13], w =>
    (Qbin Try.prog Go.BinOp.gtr 3 x12 x13).bind fun v1496 =>
    condK v1496 (
      some ((Exit.exit 4), [x0, x1, x4, x12, x13], w)
    ) (
      (QindexAddr Try.prog 62 x0 x13 w.drew).bind fun v1497 =>
      (Qload Try.prog 73 v1497 w.drew).bind fun v1498 =>
      (QindexAddr Try.prog 62 x0 x12 w.drew).bind fun v1499 =>
      (Qload Try.prog 73 v1499 w.drew).bind fun v1500 =>
      (QindexAddr Try.prog 62 x0 x12 w.drew).bind fun v1501 =>
      (Xstore Try.prog 73 v1501 v1498 w.drew).bind fun r1502 =>
      (QindexAddr Try.prog 62 x0 x13 r1502.2).bind fun v1503 =>
      (Xstore Try.prog 73 v1503 v1500 r1502.2).bind fun r1504 =>
      chkK True (
        (Qbin Try.prog Go.BinOp.add 3 x12 (Go.Value.int Go.IntKind.i64 1)).bind fun v1505 =>
        (Qbin Try.prog Go.BinOp.sub 3 x13 (Go.Value.int Go.IntKind.i64 1)).bind fun v1506 =>
        some (Exit.normal, [x0, x1, x4, v1505, v1506], r1504.2)
      )
    )
  | _, _, _ => none
noncomputable def s67B3 : List Value → World → Option (Exit × List Value × World)
  | [x0, x1, x4, x12, x13], w =>
    (Qbin Try.prog Go.BinOp.leq 3 x12 x13).bind fun v1477 =>
    (guardQ v1477 true (QindexAddr Try.prog 62 (gv (isB v1477 true) x0) (gv (isB v1477 true) x12) w.drew)).bind fun v1478 =>
    (guardQ v1477 true (Qload Try.prog 73 v1478 w.drew)).bind fun v1479 =>
    (guardQ v1477 true (QindexAddr Try.prog 62 (gv (isB v1477 true) x0) (gv (isB v1477 true) x1) w.drew)).bind fun v1480 =>
    (guardQ v1477 true (Qload Try.prog 73 v1480 w.drew)).bind fun v1481 =>
    (guardX v1477 true w.drew (Xcall Try.prog (gv (isB v1477 true) x4) #[v1479, v1481] w.drew)).bind fun r1482 =>
    (guardQ v1477 true (Qbin Try.prog Go.BinOp.lss 3 r1482.1 (Go.Value.int Go.IntKind.i64 0))).bind fun v1483 =>
    (Qpick v1477 v1483 (Go.Value.bool false)).bind fun v1484 =>
    chkK True (
      condK v1484 (
        (Qbin Try.prog Go.BinOp.add 3 x12 (Go.Value.int Go.IntKind.i64 1)).bind fun v1485 =>
        some (Exit.normal, [x0, x1, x4, v1485, x13], r1482.2)
      ) (
        some ((Exit.exit 6), [x0, x1, x4, x12, x13], r1482.2)
      )
    )
  | _, _ => none
noncomputable def s67R3 : Exit → List Value → World → Option (Exit × List Value × World)
  | (Exit.exit 6), [x0, x1, x4, x12, x13], w =>
    loopR s67B4 s67R4 [x0, x1, x4, x12, x13] w
  | _, _, _ => none
noncomputable def s67R3x6raw (x0 x1 x4 x12 x13 : Value) (g : Nat → Value) (w : World) : Option (Exit × List Value × World) :=
  s67L4 [x0, x1, (g 2), (g 3), x4, (g 5), (g 6), (g 7), (g 8), (g 9), (g 10), (g 11), x12, x13, (g 14), (g 15), (g 16), (g 17), (g 18), (g 19), (g 20), (g 21), (g 22), (g 23), (g 24), (g 25), (g 26), (g 27), (g 28), (g 29), (g 30), (g 31), (g 32), (g 33), (g 34), (g 35), (g 36), (g 37), (g 38), (g 39), (g 40), (g 41), (g 42), (g 43), (g 44), (g 45), (g 46), (g 47), (g 48), (g 49), (g 50), (g 51), (g 52), (g 53), (g 54), (g 55), (g 56), (g 57), (g 58), (g 59), (g 60), (g 61), (g 62), (g 63), (g 64), (g 65), (g 66), (g 67), (g 68), (g 69), (g 70), (g 71), (g 72), (g 73), (g 74), (g 75), (g 76), (g 77), (g 78), (g 79), (g 80), (g 81), (g 82), (g 83), (g 84), (g 85), (g 86), (g 87), (g 88), (g 89), (g 90), (g 91), (g 92), (g 93), (g 94), (g 95), (g 96), (g 97), (g 98), (g 99), (g 100), (g 101), (g 102), (g 103), (g 104), (g 105), (g 106), (g 107), (g 108), (g 109), (g 110), (g 111), (g 112), (g 113), (g 114), (g 115), (g 116), (g 117), (g 118), (g 119), (g 120), (g 121), (g 122), (g 123), (g 124), (g 125), (g 126), (g 127), (g 128), (g 129), (g 130), (g 131), (g 132), (g 133), (g 134), (g 135), (g 136), (g 137), (g 138), (g 139), (g 140), (g 141), (g 142), (g 143), (g 144), (g 145), (g 146), (g 147), (g 148), (g 149), (g 150), (g 151), (g 152), (g 153), (g 154), (g 155), (g 156), (g 157), (g 158), (g 159), (g 160), (g 161), (g 162), (g 163), (g 164), (g 165), (g 166), (g 167), (g 168), (g 169), (g 170), (g 171), (g 172), (g 173), (g 174), (g 175), (g 176), (g 177)] [] w
noncomputable def s67B2raw (g : Nat → Value) (d : List Deferred) : List Value → World → Option (Exit × List Value × World)
  | [x0, x1, x4, x12, x13], w =>
    s67L3 [x0, x1, (g 2), (g 3), x4, (g 5), (g 6), (g 7), (g 8), (g 9), (g 10), (g 11), x12, x13, (g 14), (g 15), (g 16), (g 17), (g 18), (g 19), (g 20), (g 21), (g 22), (g 23), (g 24), (g 25), (g 26), (g 27), (g 28), (g 29), (g 30), (g 31), (g 32), (g 33), (g 34), (g 35), (g 36), (g 37), (g 38), (g 39), (g 40), (g 41), (g 42), (g 43), (g 44), (g 45), (g 46), (g 47), (g 48), (g 49), (g 50), (g 51), (g 52), (g 53), (g 54), (g 55), (g 56), (g 57), (g 58), (g 59), (g 60), (g 61), (g 62), (g 63), (g 64), (g 65), (g 66), (g 67), (g 68), (g 69), (g 70), (g 71), (g 72), (g 73), (g 74), (g 75), (g 76), (g 77), (g 78), (g 79), (g 80), (g 81), (g 82), (g 83), (g 84), (g 85), (g 86), (g 87), (g 88), (g 89), (g 90), (g 91), (g 92), (g 93), (g 94), (g 95), (g 96), (g 97), (g 98), (g 99), (g 100), (g 101), (g 102), (g 103), (g 104), (g 105), (g 106), (g 107), (g 108), (g 109), (g 110), (g 111), (g 112), (g 113), (g 114), (g 115), (g 116), (g 117), (g 118), (g 119), (g 120), (g 121), (g 122), (g 123), (g 124), (g 125), (g 126), (g 127), (g 128), (g 129), (g 130), (g 131), (g 132), (g 133), (g 134), (g 135), (g 136), (g 137), (g 138), (g 139), (g 140), (g 141), (g 142), (g 143), (g 144), (g 145), (g 146), (g 147), (g 148), (g 149), (g 150), (g 151), (g 152), (g 153), (g 154), (g 155), (g 156), (g 157), (g 158), (g 159), (g 160), (g 161), (g 162), (g 163), (g 164), (g 165), (g 166), (g 167), (g 168), (g 169), (g 170), (g 171), (g 172), (g 173), (g 174), (g 175), (g 176), (g 177)] d w
  | _, _ => none
noncomputable def s67B2 : List Value → World → Option (Exit × List Value × World)
  | [x0, x1, x4, x12, x13], w =>
    loopR s67B3 s67R3 [x0, x1, x4, x12, x13] w
  | _, _ => none
noncomputable def s67R2 : Exit → List Value → World → Option (Value × World)
  | (Exit.exit 4), [x0, x1, _, _, x13], w =>
    (QindexAddr Try.prog 62 x0 x1 w.drew).bind fun v1469 =>
    (Qload Try.prog 73 v1469 w.drew).bind fun v1470 =>
    (QindexAddr Try.prog 62 x0 x13 w.drew).bind fun v1471 =>
    (Qload Try.prog 73 v1471 w.drew).bind fun v1472 =>
    (QindexAddr Try.prog 62 x0 x13 w.drew).bind fun v1473 =>
    (Xstore Try.prog 73 v1473 v1470 w.drew).bind fun r1474 =>
    (QindexAddr Try.prog 62 x0 x1 r1474.2).bind fun v1475 =>
    (Xstore Try.prog 73 v1475 v1472 r1474.2).bind fun r1476 =>
    chkK True (
      some ((Value.tuple #[x13, (Go.Value.bool false)]), r1476.2)
    )
  | _, _, _ => none
noncomputable def s67B1 : List Value → World → Option (Exit × List Value × World)
  | [x0, x1, x4, x12, x13], w =>
    (Qbin Try.prog Go.BinOp.leq 3 x12 x13).bind fun v1440 =>
    (guardQ v1440 true (QindexAddr Try.prog 62 (gv (isB v1440 true) x0) (gv (isB v1440 true) x13) w.drew)).bind fun v1441 =>
    (guardQ v1440 true (Qload Try.prog 73 v1441 w.drew)).bind fun v1442 =>
    (guardQ v1440 true (QindexAddr Try.prog 62 (gv (isB v1440 true) x0) (gv (isB v1440 true) x1) w.drew)).bind fun v1443 =>
    (guardQ v1440 true (Qload Try.prog 73 v1443 w.drew)).bind fun v1444 =>
    (guardX v1440 true w.drew (Xcall Try.prog (gv (isB v1440 true) x4) #[v1442, v1444] w.drew)).bind fun r1445 =>
    (guardQ v1440 true (Qbin Try.prog Go.BinOp.lss 3 r1445.1 (Go.Value.int Go.IntKind.i64 0))).bind fun v1446 =>
    (guardQ v1440 true (Qun Go.UnOp.not v1446)).bind fun v1447 =>
    (Qpick v1440 v1447 (Go.Value.bool false)).bind fun v1448 =>
    chkK True (
      condK v1448 (
        (Qbin Try.prog Go.BinOp.sub 3 x13 (Go.Value.int Go.IntKind.i64 1)).bind fun v1449 =>
        some (Exit.normal, [x0, x1, x4, x12, v1449], r1445.2)
      ) (
        some ((Exit.exit 2), [x0, x1, x4, x12, x13], r1445.2)
      )
    )
  | _, _ => none
noncomputable def s67R1 : Exit → List Value → World → Option (Value × World)
  | (Exit.exit 2), [x0, x1, x4, x12, x13], w =>
    (Qbin Try.prog Go.BinOp.gtr 3 x12 x13).bind fun v1450 =>
    condK v1450 (
      (QindexAddr Try.prog 62 x0 x1 w.drew).bind fun v1451 =>
      (Qload Try.prog 73 v1451 w.drew).bind fun v1452 =>
      (QindexAddr Try.prog 62 x0 x13 w.drew).bind fun v1453 =>
      (Qload Try.prog 73 v1453 w.drew).bind fun v1454 =>
      (QindexAddr Try.prog 62 x0 x13 w.drew).bind fun v1455 =>
      (Xstore Try.prog 73 v1455 v1452 w.drew).bind fun r1456 =>
      (QindexAddr Try.prog 62 x0 x1 r1456.2).bind fun v1457 =>
      (Xstore Try.prog 73 v1457 v1454 r1456.2).bind fun r1458 =>
      chkK True (
        some ((Value.tuple #[x13, (Go.Value.bool true)]), r1458.2)
      )
    ) (
      (QindexAddr Try.prog 62 x0 x13 w.drew).bind fun v1459 =>
      (Qload Try.prog 73 v1459 w.drew).bind fun v1460 =>
      (QindexAddr Try.prog 62 x0 x12 w.drew).bind fun v1461 =>
      (Qload Try.prog 73 v1461 w.drew).bind fun v1462 =>
      (QindexAddr Try.prog 62 x0 x12 w.drew).bind fun v1463 =>
      (Xstore Try.prog 73 v1463 v1460 w.drew).bind fun r1464 =>
      (QindexAddr Try.prog 62 x0 x13 r1464.2).bind fun v1465 =>
      (Xstore Try.prog 73 v1465 v1462 r1464.2).bind fun r1466 =>
      chkK True (
        (Qbin Try.prog Go.BinOp.add 3 x12 (Go.Value.int Go.IntKind.i64 1)).bind fun v1467 =>
        (Qbin Try.prog Go.BinOp.sub 3 x13 (Go.Value.int Go.IntKind.i64 1)).bind fun v1468 =>
        loopR s67B2 s67R2 [x0, x1, x4, v1467, v1468] r1466.2
      )
    )
  | _, _, _ => none
noncomputable def s67R1x2raw (x0 x1 x4 x12 x13 : Value) (g : Nat → Value) (w : World) : Option (Value × World) :=
  (Qbin Try.prog Go.BinOp.gtr 3 x12 x13).bind fun v1450 =>
  condK v1450 (
    (QindexAddr Try.prog 62 x0 x1 w.drew).bind fun v1451 =>
    (Qload Try.prog 73 v1451 w.drew).bind fun v1452 =>
    (QindexAddr Try.prog 62 x0 x13 w.drew).bind fun v1453 =>
    (Qload Try.prog 73 v1453 w.drew).bind fun v1454 =>
    (QindexAddr Try.prog 62 x0 x13 w.drew).bind fun v1455 =>
    (Xstore Try.prog 73 v1455 v1452 w.drew).bind fun r1456 =>
    (QindexAddr Try.prog 62 x0 x1 r1456.2).bind fun v1457 =>
    (Xstore Try.prog 73 v1457 v1454 r1456.2).bind fun r1458 =>
    chkK True (
      some ((Value.tuple #[x13, (Go.Value.bool true)]), r1458.2)
    )
  ) (
    (QindexAddr Try.prog 62 x0 x13 w.drew).bind fun v1459 =>
    (Qload Try.prog 73 v1459 w.drew).bind fun v1460 =>
    (QindexAddr Try.prog 62 x0 x12 w.drew).bind fun v1461 =>
    (Qload Try.prog 73 v1461 w.drew).bind fun v1462 =>
    (QindexAddr Try.prog 62 x0 x12 w.drew).bind fun v1463 =>
    (Xstore Try.prog 73 v1463 v1460 w.drew).bind fun r1464 =>
    (QindexAddr Try.prog 62 x0 x13 r1464.2).bind fun v1465 =>
    (Xstore Try.prog 73 v1465 v1462 r1464.2).bind fun r1466 =>
    chkK True (
      (Qbin Try.prog Go.BinOp.add 3 x12 (Go.Value.int Go.IntKind.i64 1)).bind fun v1467 =>
      (Qbin Try.prog Go.BinOp.sub 3 x13 (Go.Value.int Go.IntKind.i64 1)).bind fun v1468 =>
      s67L2 [x0, x1, (g 2), (g 3), x4, (g 5), (g 6), (g 7), (g 8), (g 9), (g 10), (g 11), v1467, v1468, (g 14), (g 15), (g 16), (g 17), (g 18), (g 19), (g 20), (g 21), (g 22), (g 23), (g 24), (g 25), (g 26), (g 27), (g 28), (g 29), (g 30), (g 31), (g 32), (g 33), (g 34), (g 35), (g 36), (g 37), (g 38), (g 39), (g 40), (g 41), (g 42), (g 43), (g 44), (g 45), (g 46), (g 47), (g 48), (g 49), (g 50), (g 51), (g 52), (g 53), (g 54), (g 55), (g 56), (g 57), (g 58), (g 59), (g 60), (g 61), (g 62), (g 63), (g 64), (g 65), (g 66), (g 67), (g 68), x12, x13, v1450, (g 72), (g 73), (g 74), (g 75), (g 76), (g 77), (g 78), (g 79), (g 80), (g 81), (g 82), (g 83), (g 84), (g 85), (g 86), x0, x12, x0, x13, x0, x13, v1459, v1460, x0, x12, v1461, v1462, v1463, v1465, x12, v1467, x13, v1468, (g 105), (g 106), (g 107), (g 108), (g 109), (g 110), (g 111), (g 112), (g 113), (g 114), (g 115), (g 116), (g 117), (g 118), (g 119), (g 120), (g 121), (g 122), (g 123), (g 124), (g 125), (g 126), (g 127), (g 128), (g 129), (g 130), (g 131), (g 132), (g 133), (g 134), (g 135), (g 136), (g 137), (g 138), (g 139), (g 140), (g 141), (g 142), (g 143), (g 144), (g 145), (g 146), (g 147), (g 148), (g 149), (g 150), (g 151), (g 152), (g 153), (g 154), (g 155), (g 156), (g 157), (g 158), (g 159), (g 160), (g 161), (g 162), (g 163), (g 164), (g 165), (g 166), (g 167), (g 168), (g 169), (g 170), (g 171), (g 172), (g 173), (g 174), (g 175), (g 176), (g 177)] [] r1466.2
    )
  )
noncomputable def s67B0 : List Value → World → Option (Exit × List Value × World)
  | [x0, x1, x4, x12, x13], w =>
    (Qbin Try.prog Go.BinOp.leq 3 x12 x13).bind fun v1431 =>
    (guardQ v1431 true (QindexAddr Try.prog 62 (gv (isB v1431 true) x0) (gv (isB v1431 true) x12) w.drew)).bind fun v1432 =>
    (guardQ v1431 true (Qload Try.prog 73 v1432 w.drew)).bind fun v1433 =>
    (guardQ v1431 true (QindexAddr Try.prog 62 (gv (isB v1431 true) x0) (gv (isB v1431 true) x1) w.drew)).bind fun v1434 =>
    (guardQ v1431 true (Qload Try.prog 73 v1434 w.drew)).bind fun v1435 =>
    (guardX v1431 true w.drew (Xcall Try.prog (gv (isB v1431 true) x4) #[v1433, v1435] w.drew)).bind fun r1436 =>
    (guardQ v1431 true (Qbin Try.prog Go.BinOp.lss 3 r1436.1 (Go.Value.int Go.IntKind.i64 0))).bind fun v1437 =>
    (Qpick v1431 v1437 (Go.Value.bool false)).bind fun v1438 =>
    chkK True (
      condK v1438 (
        (Qbin Try.prog Go.BinOp.add 3 x12 (Go.Value.int Go.IntKind.i64 1)).bind fun v1439 =>
        some (Exit.normal, [x0, x1, x4, v1439, x13], r1436.2)
      ) (
        some ((Exit.exit 0), [x0, x1, x4, x12, x13], r1436.2)
      )
    )
  | _, _ => none
noncomputable def s67R0 : Exit → List Value → World → Option (Value × World)
  | (Exit.exit 0), [x0, x1, x4, x12, x13], w =>
    loopR s67B1 s67R1 [x0, x1, x4, x12, x13] w
  | _, _, _ => none
noncomputable def s67R0x0raw (x0 x1 x4 x12 x13 : Value) (g : Nat → Value) (w : World) : Option (Value × World) :=
  s67L1 [x0, x1, (g 2), (g 3), x4, (g 5), (g 6), (g 7), (g 8), (g 9), (g 10), (g 11), x12, x13, (g 14), (g 15), (g 16), (g 17), (g 18), (g 19), (g 20), (g 21), (g 22), (g 23), (g 24), (g 25), (g 26), (g 27), (g 28), (g 29), (g 30), (g 31), (g 32), (g 33), (g 34), (g 35), (g 36), (g 37), (g 38), (g 39), (g 40), (g 41), (g 42), (g 43), (g 44), (g 45), (g 46), (g 47), (g 48), (g 49), (g 50), (g 51), (g 52), (g 53), (g 54), (g 55), (g 56), (g 57), (g 58), (g 59), (g 60), (g 61), (g 62), (g 63), (g 64), (g 65), (g 66), (g 67), (g 68), (g 69), (g 70), (g 71), (g 72), (g 73), (g 74), (g 75), (g 76), (g 77), (g 78), (g 79), (g 80), (g 81), (g 82), (g 83), (g 84), (g 85), (g 86), (g 87), (g 88), (g 89), (g 90), (g 91), (g 92), (g 93), (g 94), (g 95), (g 96), (g 97), (g 98), (g 99), (g 100), (g 101), (g 102), (g 103), (g 104), (g 105), (g 106), (g 107), (g 108), (g 109), (g 110), (g 111), (g 112), (g 113), (g 114), (g 115), (g 116), (g 117), (g 118), (g 119), (g 120), (g 121), (g 122), (g 123), (g 124), (g 125), (g 126), (g 127), (g 128), (g 129), (g 130), (g 131), (g 132), (g 133), (g 134), (g 135), (g 136), (g 137), (g 138), (g 139), (g 140), (g 141), (g 142), (g 143), (g 144), (g 145), (g 146), (g 147), (g 148), (g 149), (g 150), (g 151), (g 152), (g 153), (g 154), (g 155), (g 156), (g 157), (g 158), (g 159), (g 160), (g 161), (g 162), (g 163), (g 164), (g 165), (g 166), (g 167), (g 168), (g 169), (g 170), (g 171), (g 172), (g 173), (g 174), (g 175), (g 176), (g 177)] [] w
noncomputable def s67raw (x0 x1 x2 x3 x4 : Value) (w : World) : Option (Value × World) :=
  (QindexAddr Try.prog 62 x0 x3 w.drew).bind fun v1421 =>
  (Qload Try.prog 73 v1421 w.drew).bind fun v1422 =>
  (QindexAddr Try.prog 62 x0 x1 w.drew).bind fun v1423 =>
  (Qload Try.prog 73 v1423 w.drew).bind fun v1424 =>
  (QindexAddr Try.prog 62 x0 x1 w.drew).bind fun v1425 =>
  (Xstore Try.prog 73 v1425 v1422 w.drew).bind fun r1426 =>
  (QindexAddr Try.prog 62 x0 x3 r1426.2).bind fun v1427 =>
  (Xstore Try.prog 73 v1427 v1424 r1426.2).bind fun r1428 =>
  chkK True (
    (Qbin Try.prog Go.BinOp.add 3 x1 (Go.Value.int Go.IntKind.i64 1)).bind fun v1429 =>
    (Qbin Try.prog Go.BinOp.sub 3 x2 (Go.Value.int Go.IntKind.i64 1)).bind fun v1430 =>
    s67L0 [x0, x1, x2, x3, x4, undef, undef, undef, undef, undef, (Go.Value.int Go.IntKind.i64 0), (Go.Value.bool false), v1429, v1430, x0, x1, x0, x3, x0, x3, v1421, v1422, x0, x1, v1423, v1424, v1425, v1427, x1, v1429, x2, v1430, undef, undef, undef, undef, undef, undef, undef, undef, undef, undef, undef, undef, undef, undef, undef, undef, undef, undef, undef, undef, undef, undef, undef, undef, undef, undef, undef, undef, undef, undef, undef, undef, undef, undef, undef, undef, undef, undef, undef, undef, undef, undef, undef, undef, undef, undef, undef, undef, undef, undef, undef, undef, undef, undef, undef, undef, undef, undef, undef, undef, undef, undef, undef, undef, undef, undef, undef, undef, undef, undef, undef, undef, undef, undef, undef, undef, undef, undef, undef, undef, undef, undef, undef, undef, undef, undef, undef, undef, undef, undef, undef, undef, undef, undef, undef, undef, undef, undef, undef, undef, undef, undef, undef, undef, undef, undef, undef, undef, undef, undef, undef, undef, undef, undef, undef, undef, undef, undef, undef, undef, undef, undef, undef, undef, undef, undef, undef, undef, undef, undef, undef, undef, undef, undef, undef, undef, undef, undef, undef, undef, undef, undef, undef, undef, undef, undef] [] r1428.2
  )
noncomputable def s67 (x0 x1 x2 x3 x4 : Value) (w : World) : Option (Value × World) :=
  (QindexAddr Try.prog 62 x0 x3 w.drew).bind fun v1421 =>
  (Qload Try.prog 73 v1421 w.drew).bind fun v1422 =>
  (QindexAddr Try.prog 62 x0 x1 w.drew).bind fun v1423 =>
  (Qload Try.prog 73 v1423 w.drew).bind fun v1424 =>
  (QindexAddr Try.prog 62 x0 x1 w.drew).bind fun v1425 =>
  (Xstore Try.prog 73 v1425 v1422 w.drew).bind fun r1426 =>
  (QindexAddr Try.prog 62 x0 x3 r1426.2).bind fun v1427 =>
  (Xstore Try.prog 73 v1427 v1424 r1426.2).bind fun r1428 =>
  chkK True (
    (Qbin Try.prog Go.BinOp.add 3 x1 (Go.Value.int Go.IntKind.i64 1)).bind fun v1429 =>
    (Qbin Try.prog Go.BinOp.sub 3 x2 (Go.Value.int Go.IntKind.i64 1)).bind fun v1430 =>
    loopR s67B0 s67R0 [x0, x1, x4, v1429, v1430] r1428.2
  )
theorem s67B4eq (x0 x1 x4 x12 x13 : Value) (w : World) (g : Nat → Value) (d : List Deferred) : evK Try.prog 67 none (nav [1, 1, 1, 1, 1, 1, 1, 1, 1, 0, 0, 0, 0, 1, 0, 0, 0] (bodyOf Try.f67)) none _ (frm 178 (setL [0, 1, 4, 12, 13] [x0, x1, x4, x12, x13] g) d) w (projK [0, 1, 4, 12, 13]) = s67B4 [x0, x1, x4, x12, x13] w := by kernel_rfl
theorem s67R4x8eq (x0 x1 x4 x12 x13 : Value) (g : Nat → Value) (w : World) : s67K10 (Exit.exit 8) (frm 178 (setL [0, 1, 4, 12, 13] [x0, x1, x4, x12, x13] g) []) w = s67R4 (Exit.exit 8) [x0, x1, x4, x12, x13] w := by kernel_rfl
theorem s67R4of : ∀ (e : Exit) (xs : List Value) (w : World) (g : Nat → Value) (y : _), s67R4 e xs w = some y → s67K10 e (frm 178 (setL [0, 1, 4, 12, 13] xs g) []) w = some y := by
  intro e xs w g y h
  unfold s67R4 at h
  split at h
  · exact (s67R4x8eq _ _ _ _ _ g _).trans h
  · cases h
set_option maxRecDepth 20000 in
theorem s67L4of {s0 s1 s2 s3 s4 s5 s6 s7 s8 s9 s10 s11 s12 s13 s14 s15 s16 s17 s18 s19 s20 s21 s22 s23 s24 s25 s26 s27 s28 s29 s30 s31 s32 s33 s34 s35 s36 s37 s38 s39 s40 s41 s42 s43 s44 s45 s46 s47 s48 s49 s50 s51 s52 s53 s54 s55 s56 s57 s58 s59 s60 s61 s62 s63 s64 s65 s66 s67 s68 s69 s70 s71 s72 s73 s74 s75 s76 s77 s78 s79 s80 s81 s82 s83 s84 s85 s86 s87 s88 s89 s90 s91 s92 s93 s94 s95 s96 s97 s98 s99 s100 s101 s102 s103 s104 s105 s106 s107 s108 s109 s110 s111 s112 s113 s114 s115 s116 s117 s118 s119 s120 s121 s122 s123 s124 s125 s126 s127 s128 s129 s130 s131 s132 s133 s134 s135 s136 s137 s138 s139 s140 s141 s142 s143 s144 s145 s146 s147 s148 s149 s150 s151 s152 s153 s154 s155 s156 s157 s158 s159 s160 s161 s162 s163 s164 s165 s166 s167 s168 s169 s170 s171 s172 s173 s174 s175 s176 s177 : Value} {w : World} {r : _} (h : loopR s67B4 s67R4 [s0, s1, s4, s12, s13] w = some r) : s67L4 [s0, s1, s2, s3, s4, s5, s6, s7, s8, s9, s10, s11, s12, s13, s14, s15, s16, s17, s18, s19, s20, s21, s22, s23, s24, s25, s26, s27, s28, s29, s30, s31, s32, s33, s34, s35, s36, s37, s38, s39, s40, s41, s42, s43, s44, s45, s46, s47, s48, s49, s50, s51, s52, s53, s54, s55, s56, s57, s58, s59, s60, s61, s62, s63, s64, s65, s66, s67, s68, s69, s70, s71, s72, s73, s74, s75, s76, s77, s78, s79, s80, s81, s82, s83, s84, s85, s86, s87, s88, s89, s90, s91, s92, s93, s94, s95, s96, s97, s98, s99, s100, s101, s102, s103, s104, s105, s106, s107, s108, s109, s110, s111, s112, s113, s114, s115, s116, s117, s118, s119, s120, s121, s122, s123, s124, s125, s126, s127, s128, s129, s130, s131, s132, s133, s134, s135, s136, s137, s138, s139, s140, s141, s142, s143, s144, s145, s146, s147, s148, s149, s150, s151, s152, s153, s154, s155, s156, s157, s158, s159, s160, s161, s162, s163, s164, s165, s166, s167, s168, s169, s170, s171, s172, s173, s174, s175, s176, s177] [] w = some r :=
  loopN_of (B := s67B4) (R := s67R4) (n := 178) (live := [0, 1, 4, 12, 13]) (fun xs w g y hl h => match xs, hl, h with | [x0, x1, x4, x12, x13], _, h => (s67B4eq x0 x1 x4 x12 x13 w g []).trans h) (by kernel_rfl) (s67R4of) (fun i => ([s0, s1, s2, s3, s4, s5, s6, s7, s8, s9, s10, s11, s12, s13, s14, s15, s16, s17, s18, s19, s20, s21, s22, s23, s24, s25, s26, s27, s28, s29, s30, s31, s32, s33, s34, s35, s36, s37, s38, s39, s40, s41, s42, s43, s44, s45, s46, s47, s48, s49, s50, s51, s52, s53, s54, s55, s56, s57, s58, s59, s60, s61, s62, s63, s64, s65, s66, s67, s68, s69, s70, s71, s72, s73, s74, s75, s76, s77, s78, s79, s80, s81, s82, s83, s84, s85, s86, s87, s88, s89, s90, s91, s92, s93, s94, s95, s96, s97, s98, s99, s100, s101, s102, s103, s104, s105, s106, s107, s108, s109, s110, s111, s112, s113, s114, s115, s116, s117, s118, s119, s120, s121, s122, s123, s124, s125, s126, s127, s128, s129, s130, s131, s132, s133, s134, s135, s136, s137, s138, s139, s140, s141, s142, s143, s144, s145, s146, s147, s148, s149, s150, s151, s152, s153, s154, s155, s156, s157, s158, s159, s160, s161, s162, s163, s164, s165, s166, s167, s168, s169, s170, s171, s172, s173, s174, s175, s176, s177] : List Value).getD i undef) (by kernel_rfl) rfl h
theorem s67B3eq (x0 x1 x4 x12 x13 : Value) (w : World) (g : Nat → Value) (d : List Deferred) : evK Try.prog 67 none (nav [1, 1, 1, 1, 1, 1, 1, 1, 1, 0, 0, 0, 0, 0, 0, 0] (bodyOf Try.f67)) none _ (frm 178 (setL [0, 1, 4, 12, 13] [x0, x1, x4, x12, x13] g) d) w (projK [0, 1, 4, 12, 13]) = s67B3 [x0, x1, x4, x12, x13] w := by kernel_rfl
theorem s67R3x6eq (x0 x1 x4 x12 x13 : Value) (g : Nat → Value) (w : World) : s67K8 (Exit.exit 6) (frm 178 (setL [0, 1, 4, 12, 13] [x0, x1, x4, x12, x13] g) []) w = s67R3x6raw x0 x1 x4 x12 x13 g w := by kernel_rfl
theorem s67R3of : ∀ (e : Exit) (xs : List Value) (w : World) (g : Nat → Value) (y : _), s67R3 e xs w = some y → s67K8 e (frm 178 (setL [0, 1, 4, 12, 13] xs g) []) w = some y := by
  intro e xs w g y h
  unfold s67R3 at h
  split at h
  · exact (s67R3x6eq _ _ _ _ _ g _).trans ((s67L4of) h)
  · cases h
set_option maxRecDepth 20000 in
theorem s67L3of {s0 s1 s2 s3 s4 s5 s6 s7 s8 s9 s10 s11 s12 s13 s14 s15 s16 s17 s18 s19 s20 s21 s22 s23 s24 s25 s26 s27 s28 s29 s30 s31 s32 s33 s34 s35 s36 s37 s38 s39 s40 s41 s42 s43 s44 s45 s46 s47 s48 s49 s50 s51 s52 s53 s54 s55 s56 s57 s58 s59 s60 s61 s62 s63 s64 s65 s66 s67 s68 s69 s70 s71 s72 s73 s74 s75 s76 s77 s78 s79 s80 s81 s82 s83 s84 s85 s86 s87 s88 s89 s90 s91 s92 s93 s94 s95 s96 s97 s98 s99 s100 s101 s102 s103 s104 s105 s106 s107 s108 s109 s110 s111 s112 s113 s114 s115 s116 s117 s118 s119 s120 s121 s122 s123 s124 s125 s126 s127 s128 s129 s130 s131 s132 s133 s134 s135 s136 s137 s138 s139 s140 s141 s142 s143 s144 s145 s146 s147 s148 s149 s150 s151 s152 s153 s154 s155 s156 s157 s158 s159 s160 s161 s162 s163 s164 s165 s166 s167 s168 s169 s170 s171 s172 s173 s174 s175 s176 s177 : Value} {w : World} {r : _} (h : loopR s67B3 s67R3 [s0, s1, s4, s12, s13] w = some r) : s67L3 [s0, s1, s2, s3, s4, s5, s6, s7, s8, s9, s10, s11, s12, s13, s14, s15, s16, s17, s18, s19, s20, s21, s22, s23, s24, s25, s26, s27, s28, s29, s30, s31, s32, s33, s34, s35, s36, s37, s38, s39, s40, s41, s42, s43, s44, s45, s46, s47, s48, s49, s50, s51, s52, s53, s54, s55, s56, s57, s58, s59, s60, s61, s62, s63, s64, s65, s66, s67, s68, s69, s70, s71, s72, s73, s74, s75, s76, s77, s78, s79, s80, s81, s82, s83, s84, s85, s86, s87, s88, s89, s90, s91, s92, s93, s94, s95, s96, s97, s98, s99, s100, s101, s102, s103, s104, s105, s106, s107, s108, s109, s110, s111, s112, s113, s114, s115, s116, s117, s118, s119, s120, s121, s122, s123, s124, s125, s126, s127, s128, s129, s130, s131, s132, s133, s134, s135, s136, s137, s138, s139, s140, s141, s142, s143, s144, s145, s146, s147, s148, s149, s150, s151, s152, s153, s154, s155, s156, s157, s158, s159, s160, s161, s162, s163, s164, s165, s166, s167, s168, s169, s170, s171, s172, s173, s174, s175, s176, s177] [] w = some r :=
  loopN_of (B := s67B3) (R := s67R3) (n := 178) (live := [0, 1, 4, 12, 13]) (fun xs w g y hl h => match xs, hl, h with | [x0, x1, x4, x12, x13], _, h => (s67B3eq x0 x1 x4 x12 x13 w g []).trans h) (by kernel_rfl) (s67R3of) (fun i => ([s0, s1, s2, s3, s4, s5, s6, s7, s8, s9, s10, s11, s12, s13, s14, s15, s16, s17, s18, s19, s20, s21, s22, s23, s24, s25, s26, s27, s28, s29, s30, s31, s32, s33, s34, s35, s36, s37, s38, s39, s40, s41, s42, s43, s44, s45, s46, s47, s48, s49, s50, s51, s52, s53, s54, s55, s56, s57, s58, s59, s60, s61, s62, s63, s64, s65, s66, s67, s68, s69, s70, s71, s72, s73, s74, s75, s76, s77, s78, s79, s80, s81, s82, s83, s84, s85, s86, s87, s88, s89, s90, s91, s92, s93, s94, s95, s96, s97, s98, s99, s100, s101, s102, s103, s104, s105, s106, s107, s108, s109, s110, s111, s112, s113, s114, s115, s116, s117, s118, s119, s120, s121, s122, s123, s124, s125, s126, s127, s128, s129, s130, s131, s132, s133, s134, s135, s136, s137, s138, s139, s140, s141, s142, s143, s144, s145, s146, s147, s148, s149, s150, s151, s152, s153, s154, s155, s156, s157, s158, s159, s160, s161, s162, s163, s164, s165, s166, s167, s168, s169, s170, s171, s172, s173, s174, s175, s176, s177] : List Value).getD i undef) (by kernel_rfl) rfl h
theorem s67B2eq (x0 x1 x4 x12 x13 : Value) (w : World) (g : Nat → Value) (d : List Deferred) : evK Try.prog 67 none (nav [1, 1, 1, 1, 1, 1, 1, 1, 1, 0, 0, 0] (bodyOf Try.f67)) none _ (frm 178 (setL [0, 1, 4, 12, 13] [x0, x1, x4, x12, x13] g) d) w (projK [0, 1, 4, 12, 13]) = s67B2raw g d [x0, x1, x4, x12, x13] w := by kernel_rfl
theorem s67R2x4eq (x0 x1 x4 x12 x13 : Value) (g : Nat → Value) (w : World) : s67K5 (Exit.exit 4) (frm 178 (setL [0, 1, 4, 12, 13] [x0, x1, x4, x12, x13] g) []) w = s67R2 (Exit.exit 4) [x0, x1, x4, x12, x13] w := by kernel_rfl
theorem s67R2of : ∀ (e : Exit) (xs : List Value) (w : World) (g : Nat → Value) (y : _), s67R2 e xs w = some y → s67K5 e (frm 178 (setL [0, 1, 4, 12, 13] xs g) []) w = some y := by
  intro e xs w g y h
  unfold s67R2 at h
  split at h
  · exact (s67R2x4eq _ _ _ _ _ g _).trans h
  · cases h
set_option maxRecDepth 20000 in
theorem s67L2of {s0 s1 s2 s3 s4 s5 s6 s7 s8 s9 s10 s11 s12 s13 s14 s15 s16 s17 s18 s19 s20 s21 s22 s23 s24 s25 s26 s27 s28 s29 s30 s31 s32 s33 s34 s35 s36 s37 s38 s39 s40 s41 s42 s43 s44 s45 s46 s47 s48 s49 s50 s51 s52 s53 s54 s55 s56 s57 s58 s59 s60 s61 s62 s63 s64 s65 s66 s67 s68 s69 s70 s71 s72 s73 s74 s75 s76 s77 s78 s79 s80 s81 s82 s83 s84 s85 s86 s87 s88 s89 s90 s91 s92 s93 s94 s95 s96 s97 s98 s99 s100 s101 s102 s103 s104 s105 s106 s107 s108 s109 s110 s111 s112 s113 s114 s115 s116 s117 s118 s119 s120 s121 s122 s123 s124 s125 s126 s127 s128 s129 s130 s131 s132 s133 s134 s135 s136 s137 s138 s139 s140 s141 s142 s143 s144 s145 s146 s147 s148 s149 s150 s151 s152 s153 s154 s155 s156 s157 s158 s159 s160 s161 s162 s163 s164 s165 s166 s167 s168 s169 s170 s171 s172 s173 s174 s175 s176 s177 : Value} {w : World} {r : _} (h : loopR s67B2 s67R2 [s0, s1, s4, s12, s13] w = some r) : s67L2 [s0, s1, s2, s3, s4, s5, s6, s7, s8, s9, s10, s11, s12, s13, s14, s15, s16, s17, s18, s19, s20, s21, s22, s23, s24, s25, s26, s27, s28, s29, s30, s31, s32, s33, s34, s35, s36, s37, s38, s39, s40, s41, s42, s43, s44, s45, s46, s47, s48, s49, s50, s51, s52, s53, s54, s55, s56, s57, s58, s59, s60, s61, s62, s63, s64, s65, s66, s67, s68, s69, s70, s71, s72, s73, s74, s75, s76, s77, s78, s79, s80, s81, s82, s83, s84, s85, s86, s87, s88, s89, s90, s91, s92, s93, s94, s95, s96, s97, s98, s99, s100, s101, s102, s103, s104, s105, s106, s107, s108, s109, s110, s111, s112, s113, s114, s115, s116, s117, s118, s119, s120, s121, s122, s123, s124, s125, s126, s127, s128, s129, s130, s131, s132, s133, s134, s135, s136, s137, s138, s139, s140, s141, s142, s143, s144, s145, s146, s147, s148, s149, s150, s151, s152, s153, s154, s155, s156, s157, s158, s159, s160, s161, s162, s163, s164, s165, s166, s167, s168, s169, s170, s171, s172, s173, s174, s175, s176, s177] [] w = some r :=
  loopN_of (B := s67B2) (R := s67R2) (n := 178) (live := [0, 1, 4, 12, 13]) (fun xs w g y hl h => match xs, hl, h with | [x0, x1, x4, x12, x13], _, h => (s67B2eq x0 x1 x4 x12 x13 w g []).trans (show s67B2raw g [] [x0, x1, x4, x12, x13] w = some y from (s67L3of) h)) (by kernel_rfl) (s67R2of) (fun i => ([s0, s1, s2, s3, s4, s5, s6, s7, s8, s9, s10, s11, s12, s13, s14, s15, s16, s17, s18, s19, s20, s21, s22, s23, s24, s25, s26, s27, s28, s29, s30, s31, s32, s33, s34, s35, s36, s37, s38, s39, s40, s41, s42, s43, s44, s45, s46, s47, s48, s49, s50, s51, s52, s53, s54, s55, s56, s57, s58, s59, s60, s61, s62, s63, s64, s65, s66, s67, s68, s69, s70, s71, s72, s73, s74, s75, s76, s77, s78, s79, s80, s81, s82, s83, s84, s85, s86, s87, s88, s89, s90, s91, s92, s93, s94, s95, s96, s97, s98, s99, s100, s101, s102, s103, s104, s105, s106, s107, s108, s109, s110, s111, s112, s113, s114, s115, s116, s117, s118, s119, s120, s121, s122, s123, s124, s125, s126, s127, s128, s129, s130, s131, s132, s133, s134, s135, s136, s137, s138, s139, s140, s141, s142, s143, s144, s145, s146, s147, s148, s149, s150, s151, s152, s153, s154, s155, s156, s157, s158, s159, s160, s161, s162, s163, s164, s165, s166, s167, s168, s169, s170, s171, s172, s173, s174, s175, s176, s177] : List Value).getD i undef) (by kernel_rfl) rfl h
theorem s67B1eq (x0 x1 x4 x12 x13 : Value) (w : World) (g : Nat → Value) (d : List Deferred) : evK Try.prog 67 none (nav [1, 1, 1, 1, 0, 0, 0] (bodyOf Try.f67)) none _ (frm 178 (setL [0, 1, 4, 12, 13] [x0, x1, x4, x12, x13] g) d) w (projK [0, 1, 4, 12, 13]) = s67B1 [x0, x1, x4, x12, x13] w := by kernel_rfl
theorem s67R1x2eq (x0 x1 x4 x12 x13 : Value) (g : Nat → Value) (w : World) : s67K3 (Exit.exit 2) (frm 178 (setL [0, 1, 4, 12, 13] [x0, x1, x4, x12, x13] g) []) w = s67R1x2raw x0 x1 x4 x12 x13 g w := by kernel_rfl
theorem s67R1of : ∀ (e : Exit) (xs : List Value) (w : World) (g : Nat → Value) (y : _), s67R1 e xs w = some y → s67K3 e (frm 178 (setL [0, 1, 4, 12, 13] xs g) []) w = some y := by
  intro e xs w g y h
  unfold s67R1 at h
  split at h
  · exact (s67R1x2eq _ _ _ _ _ g _).trans ((Ev.bind_mono fun (v1450 : Value) => (condK_mono id (Ev.bind_mono fun (v1459 : Value) => (Ev.bind_mono fun (v1460 : Value) => (Ev.bind_mono fun (v1461 : Value) => (Ev.bind_mono fun (v1462 : Value) => (Ev.bind_mono fun (v1463 : Value) => (Ev.bind_mono fun (r1464 : Value × World) => (Ev.bind_mono fun (v1465 : Value) => (Ev.bind_mono fun (r1466 : Value × World) => (chkK_mono (Ev.bind_mono fun (v1467 : Value) => (Ev.bind_mono fun (v1468 : Value) => (s67L2of)))))))))))))) h)
  · cases h
set_option maxRecDepth 20000 in
theorem s67L1of {s0 s1 s2 s3 s4 s5 s6 s7 s8 s9 s10 s11 s12 s13 s14 s15 s16 s17 s18 s19 s20 s21 s22 s23 s24 s25 s26 s27 s28 s29 s30 s31 s32 s33 s34 s35 s36 s37 s38 s39 s40 s41 s42 s43 s44 s45 s46 s47 s48 s49 s50 s51 s52 s53 s54 s55 s56 s57 s58 s59 s60 s61 s62 s63 s64 s65 s66 s67 s68 s69 s70 s71 s72 s73 s74 s75 s76 s77 s78 s79 s80 s81 s82 s83 s84 s85 s86 s87 s88 s89 s90 s91 s92 s93 s94 s95 s96 s97 s98 s99 s100 s101 s102 s103 s104 s105 s106 s107 s108 s109 s110 s111 s112 s113 s114 s115 s116 s117 s118 s119 s120 s121 s122 s123 s124 s125 s126 s127 s128 s129 s130 s131 s132 s133 s134 s135 s136 s137 s138 s139 s140 s141 s142 s143 s144 s145 s146 s147 s148 s149 s150 s151 s152 s153 s154 s155 s156 s157 s158 s159 s160 s161 s162 s163 s164 s165 s166 s167 s168 s169 s170 s171 s172 s173 s174 s175 s176 s177 : Value} {w : World} {r : _} (h : loopR s67B1 s67R1 [s0, s1, s4, s12, s13] w = some r) : s67L1 [s0, s1, s2, s3, s4, s5, s6, s7, s8, s9, s10, s11, s12, s13, s14, s15, s16, s17, s18, s19, s20, s21, s22, s23, s24, s25, s26, s27, s28, s29, s30, s31, s32, s33, s34, s35, s36, s37, s38, s39, s40, s41, s42, s43, s44, s45, s46, s47, s48, s49, s50, s51, s52, s53, s54, s55, s56, s57, s58, s59, s60, s61, s62, s63, s64, s65, s66, s67, s68, s69, s70, s71, s72, s73, s74, s75, s76, s77, s78, s79, s80, s81, s82, s83, s84, s85, s86, s87, s88, s89, s90, s91, s92, s93, s94, s95, s96, s97, s98, s99, s100, s101, s102, s103, s104, s105, s106, s107, s108, s109, s110, s111, s112, s113, s114, s115, s116, s117, s118, s119, s120, s121, s122, s123, s124, s125, s126, s127, s128, s129, s130, s131, s132, s133, s134, s135, s136, s137, s138, s139, s140, s141, s142, s143, s144, s145, s146, s147, s148, s149, s150, s151, s152, s153, s154, s155, s156, s157, s158, s159, s160, s161, s162, s163, s164, s165, s166, s167, s168, s169, s170, s171, s172, s173, s174, s175, s176, s177] [] w = some r :=
  loopN_of (B := s67B1) (R := s67R1) (n := 178) (live := [0, 1, 4, 12, 13]) (fun xs w g y hl h => match xs, hl, h with | [x0, x1, x4, x12, x13], _, h => (s67B1eq x0 x1 x4 x12 x13 w g []).trans h) (by kernel_rfl) (s67R1of) (fun i => ([s0, s1, s2, s3, s4, s5, s6, s7, s8, s9, s10, s11, s12, s13, s14, s15, s16, s17, s18, s19, s20, s21, s22, s23, s24, s25, s26, s27, s28, s29, s30, s31, s32, s33, s34, s35, s36, s37, s38, s39, s40, s41, s42, s43, s44, s45, s46, s47, s48, s49, s50, s51, s52, s53, s54, s55, s56, s57, s58, s59, s60, s61, s62, s63, s64, s65, s66, s67, s68, s69, s70, s71, s72, s73, s74, s75, s76, s77, s78, s79, s80, s81, s82, s83, s84, s85, s86, s87, s88, s89, s90, s91, s92, s93, s94, s95, s96, s97, s98, s99, s100, s101, s102, s103, s104, s105, s106, s107, s108, s109, s110, s111, s112, s113, s114, s115, s116, s117, s118, s119, s120, s121, s122, s123, s124, s125, s126, s127, s128, s129, s130, s131, s132, s133, s134, s135, s136, s137, s138, s139, s140, s141, s142, s143, s144, s145, s146, s147, s148, s149, s150, s151, s152, s153, s154, s155, s156, s157, s158, s159, s160, s161, s162, s163, s164, s165, s166, s167, s168, s169, s170, s171, s172, s173, s174, s175, s176, s177] : List Value).getD i undef) (by kernel_rfl) rfl h
theorem s67B0eq (x0 x1 x4 x12 x13 : Value) (w : World) (g : Nat → Value) (d : List Deferred) : evK Try.prog 67 none (nav [1, 1, 1, 0, 0, 0] (bodyOf Try.f67)) none _ (frm 178 (setL [0, 1, 4, 12, 13] [x0, x1, x4, x12, x13] g) d) w (projK [0, 1, 4, 12, 13]) = s67B0 [x0, x1, x4, x12, x13] w := by kernel_rfl
theorem s67R0x0eq (x0 x1 x4 x12 x13 : Value) (g : Nat → Value) (w : World) : s67K1 (Exit.exit 0) (frm 178 (setL [0, 1, 4, 12, 13] [x0, x1, x4, x12, x13] g) []) w = s67R0x0raw x0 x1 x4 x12 x13 g w := by kernel_rfl
theorem s67R0of : ∀ (e : Exit) (xs : List Value) (w : World) (g : Nat → Value) (y : _), s67R0 e xs w = some y → s67K1 e (frm 178 (setL [0, 1, 4, 12, 13] xs g) []) w = some y := by
  intro e xs w g y h
  unfold s67R0 at h
  split at h
  · exact (s67R0x0eq _ _ _ _ _ g _).trans ((s67L1of) h)
  · cases h
set_option maxRecDepth 20000 in
theorem s67L0of {s0 s1 s2 s3 s4 s5 s6 s7 s8 s9 s10 s11 s12 s13 s14 s15 s16 s17 s18 s19 s20 s21 s22 s23 s24 s25 s26 s27 s28 s29 s30 s31 s32 s33 s34 s35 s36 s37 s38 s39 s40 s41 s42 s43 s44 s45 s46 s47 s48 s49 s50 s51 s52 s53 s54 s55 s56 s57 s58 s59 s60 s61 s62 s63 s64 s65 s66 s67 s68 s69 s70 s71 s72 s73 s74 s75 s76 s77 s78 s79 s80 s81 s82 s83 s84 s85 s86 s87 s88 s89 s90 s91 s92 s93 s94 s95 s96 s97 s98 s99 s100 s101 s102 s103 s104 s105 s106 s107 s108 s109 s110 s111 s112 s113 s114 s115 s116 s117 s118 s119 s120 s121 s122 s123 s124 s125 s126 s127 s128 s129 s130 s131 s132 s133 s134 s135 s136 s137 s138 s139 s140 s141 s142 s143 s144 s145 s146 s147 s148 s149 s150 s151 s152 s153 s154 s155 s156 s157 s158 s159 s160 s161 s162 s163 s164 s165 s166 s167 s168 s169 s170 s171 s172 s173 s174 s175 s176 s177 : Value} {w : World} {r : _} (h : loopR s67B0 s67R0 [s0, s1, s4, s12, s13] w = some r) : s67L0 [s0, s1, s2, s3, s4, s5, s6, s7, s8, s9, s10, s11, s12, s13, s14, s15, s16, s17, s18, s19, s20, s21, s22, s23, s24, s25, s26, s27, s28, s29, s30, s31, s32, s33, s34, s35, s36, s37, s38, s39, s40, s41, s42, s43, s44, s45, s46, s47, s48, s49, s50, s51, s52, s53, s54, s55, s56, s57, s58, s59, s60, s61, s62, s63, s64, s65, s66, s67, s68, s69, s70, s71, s72, s73, s74, s75, s76, s77, s78, s79, s80, s81, s82, s83, s84, s85, s86, s87, s88, s89, s90, s91, s92, s93, s94, s95, s96, s97, s98, s99, s100, s101, s102, s103, s104, s105, s106, s107, s108, s109, s110, s111, s112, s113, s114, s115, s116, s117, s118, s119, s120, s121, s122, s123, s124, s125, s126, s127, s128, s129, s130, s131, s132, s133, s134, s135, s136, s137, s138, s139, s140, s141, s142, s143, s144, s145, s146, s147, s148, s149, s150, s151, s152, s153, s154, s155, s156, s157, s158, s159, s160, s161, s162, s163, s164, s165, s166, s167, s168, s169, s170, s171, s172, s173, s174, s175, s176, s177] [] w = some r :=
  loopN_of (B := s67B0) (R := s67R0) (n := 178) (live := [0, 1, 4, 12, 13]) (fun xs w g y hl h => match xs, hl, h with | [x0, x1, x4, x12, x13], _, h => (s67B0eq x0 x1 x4 x12 x13 w g []).trans h) (by kernel_rfl) (s67R0of) (fun i => ([s0, s1, s2, s3, s4, s5, s6, s7, s8, s9, s10, s11, s12, s13, s14, s15, s16, s17, s18, s19, s20, s21, s22, s23, s24, s25, s26, s27, s28, s29, s30, s31, s32, s33, s34, s35, s36, s37, s38, s39, s40, s41, s42, s43, s44, s45, s46, s47, s48, s49, s50, s51, s52, s53, s54, s55, s56, s57, s58, s59, s60, s61, s62, s63, s64, s65, s66, s67, s68, s69, s70, s71, s72, s73, s74, s75, s76, s77, s78, s79, s80, s81, s82, s83, s84, s85, s86, s87, s88, s89, s90, s91, s92, s93, s94, s95, s96, s97, s98, s99, s100, s101, s102, s103, s104, s105, s106, s107, s108, s109, s110, s111, s112, s113, s114, s115, s116, s117, s118, s119, s120, s121, s122, s123, s124, s125, s126, s127, s128, s129, s130, s131, s132, s133, s134, s135, s136, s137, s138, s139, s140, s141, s142, s143, s144, s145, s146, s147, s148, s149, s150, s151, s152, s153, s154, s155, s156, s157, s158, s159, s160, s161, s162, s163, s164, s165, s166, s167, s168, s169, s170, s171, s172, s173, s174, s175, s176, s177] : List Value).getD i undef) (by kernel_rfl) rfl h
theorem s67eq (x0 x1 x2 x3 x4 : Value) (w : World) : evK Try.prog 67 none (bodyOf Try.f67) none _ { tmps := (([x0, x1, x2, x3, x4] : List Value) ++ List.replicate (178 - 5) undef).toArray, defers := [] } w (leaveK Try.prog Try.f67) = s67raw x0 x1 x2 x3 x4 w := by kernel_rfl
theorem c67 {x0 x1 x2 x3 x4 : Value} {w : World} {r : Value × World} (h : s67 x0 x1 x2 x3 x4 w = some r) : C Try.prog 67 #[x0, x1, x2, x3, x4] w = some r :=
  C_ev follows_all drawLaw (by kernel_rfl) Try.func67 (by rfl) ((s67eq x0 x1 x2 x3 x4 w).trans (show s67raw x0 x1 x2 x3 x4 w = some r from (Ev.bind_mono fun (v1421 : Value) => (Ev.bind_mono fun (v1422 : Value) => (Ev.bind_mono fun (v1423 : Value) => (Ev.bind_mono fun (v1424 : Value) => (Ev.bind_mono fun (v1425 : Value) => (Ev.bind_mono fun (r1426 : Value × World) => (Ev.bind_mono fun (v1427 : Value) => (Ev.bind_mono fun (r1428 : Value × World) => (chkK_mono (Ev.bind_mono fun (v1429 : Value) => (Ev.bind_mono fun (v1430 : Value) => (s67L0of)))))))))))) h))
theorem e67 {x0 x1 x2 x3 x4 : Value} {w : World} {Q : Value × World → Prop} (h : Brings (s67 x0 x1 x2 x3 x4 w) Q) : Brings (Xcall Try.prog (Value.func (Fn.func 67) #[] #[]) #[x0, x1, x2, x3, x4] w) Q :=
  h.call (Xcall_fn Try.func67 (by decide +kernel) (by rfl) _ _ _ w) fun _ h => c67 h

/-! math/bits.Len32 -/
noncomputable def s68K0 : Exit → Act → World → Option (Value × World) := seqK (fun a w => evK Try.prog 68 none (nav [1, 1] (bodyOf Try.f68)) none _ a w (leaveK Try.prog Try.f68)) (leaveK Try.prog Try.f68)
noncomputable def s68J0 (s : List Value) (d : List Deferred) (w : World) : Option (Value × World) := s68K0 .normal ⟨s.toArray, d⟩ w
noncomputable def s68K1 : Exit → Act → World → Option (Value × World) := seqK (fun a w => evK Try.prog 68 none (nav [1, 1, 1] (bodyOf Try.f68)) none _ a w (leaveK Try.prog Try.f68)) (leaveK Try.prog Try.f68)
noncomputable def s68J1 (s : List Value) (d : List Deferred) (w : World) : Option (Value × World) := s68K1 .normal ⟨s.toArray, d⟩ w
noncomputable def s68M1 (s0 s2 : Value) (w : World) : Option (Value × World) :=
  (Qconv Try.prog 35 5 s0).bind fun v1512 =>
  (Qindex Try.prog 9 (Go.Value.string { data := (List.toArray (List.append (List.append [0, 1, 2, 2, 3, 3, 3, 3, 4, 4, 4, 4, 4, 4, 4, 4, 5, 5, 5, 5, 5, 5, 5, 5, 5, 5, 5, 5, 5, 5, 5, 5, 6, 6, 6, 6, 6, 6, 6, 6, 6, 6, 6, 6, 6, 6, 6, 6, 6, 6, 6, 6, 6, 6, 6, 6, 6, 6, 6, 6, 6, 6, 6, 6] [7, 7, 7, 7, 7, 7, 7, 7, 7, 7, 7, 7, 7, 7, 7, 7, 7, 7, 7, 7, 7, 7, 7, 7, 7, 7, 7, 7, 7, 7, 7, 7, 7, 7, 7, 7, 7, 7, 7, 7, 7, 7, 7, 7, 7, 7, 7, 7, 7, 7, 7, 7, 7, 7, 7, 7, 7, 7, 7, 7, 7, 7, 7, 7]) (List.append [8, 8, 8, 8, 8, 8, 8, 8, 8, 8, 8, 8, 8, 8, 8, 8, 8, 8, 8, 8, 8, 8, 8, 8, 8, 8, 8, 8, 8, 8, 8, 8, 8, 8, 8, 8, 8, 8, 8, 8, 8, 8, 8, 8, 8, 8, 8, 8, 8, 8, 8, 8, 8, 8, 8, 8, 8, 8, 8, 8, 8, 8, 8, 8] [8, 8, 8, 8, 8, 8, 8, 8, 8, 8, 8, 8, 8, 8, 8, 8, 8, 8, 8, 8, 8, 8, 8, 8, 8, 8, 8, 8, 8, 8, 8, 8, 8, 8, 8, 8, 8, 8, 8, 8, 8, 8, 8, 8, 8, 8, 8, 8, 8, 8, 8, 8, 8, 8, 8, 8, 8, 8, 8, 8, 8, 8, 8, 8]))) }) v1512 w).bind fun v1513 =>
  (Qconv Try.prog 5 3 v1513).bind fun v1514 =>
  (Qbin Try.prog Go.BinOp.add 3 s2 v1514).bind fun v1515 =>
  some (v1515, w)
noncomputable def s68M0raw (s0 s1 s2 s3 s4 s5 s6 _s7 _s8 s9 s10 s11 s12 s13 s14 s15 s16 s17 s18 : Value) (w : World) : Option (Value × World) :=
  (Qbin Try.prog Go.BinOp.geq 35 s0 (Go.Value.int Go.IntKind.u32 256)).bind fun v1509 =>
  condK v1509 (
    (Qbin Try.prog Go.BinOp.shr 35 s0 (Go.Value.int Go.IntKind.u64 8)).bind fun v1510 =>
    (Qbin Try.prog Go.BinOp.add 3 s2 (Go.Value.int Go.IntKind.i64 8)).bind fun v1511 =>
    s68J1 [v1510, s1, v1511, s3, s4, s5, s6, s0, v1509, s0, v1510, s2, v1511, s13, s14, s15, s16, s17, s18] [] w
  ) (
    s68J1 [s0, s1, s2, s3, s4, s5, s6, s0, v1509, s9, s10, s11, s12, s13, s14, s15, s16, s17, s18] [] w
  )
noncomputable def s68M0 (s0 s2 : Value) (w : World) : Option (Value × World) :=
  (Qbin Try.prog Go.BinOp.geq 35 s0 (Go.Value.int Go.IntKind.u32 256)).bind fun v1509 =>
  condK v1509 (
    (Qbin Try.prog Go.BinOp.shr 35 s0 (Go.Value.int Go.IntKind.u64 8)).bind fun v1510 =>
    (Qbin Try.prog Go.BinOp.add 3 s2 (Go.Value.int Go.IntKind.i64 8)).bind fun v1511 =>
    s68M1 v1510 v1511 w
  ) (
    s68M1 s0 s2 w
  )
noncomputable def s68raw (x0 : Value) (w : World) : Option (Value × World) :=
  (Qbin Try.prog Go.BinOp.geq 35 x0 (Go.Value.int Go.IntKind.u32 65536)).bind fun v1507 =>
  condK v1507 (
    (Qbin Try.prog Go.BinOp.shr 35 x0 (Go.Value.int Go.IntKind.u64 16)).bind fun v1508 =>
    s68J0 [v1508, undef, (Go.Value.int Go.IntKind.i64 16), x0, v1507, x0, v1508, undef, undef, undef, undef, undef, undef, undef, undef, undef, undef, undef, undef] [] w
  ) (
    s68J0 [x0, undef, (Go.Value.int Go.IntKind.i64 0), x0, v1507, undef, undef, undef, undef, undef, undef, undef, undef, undef, undef, undef, undef, undef, undef] [] w
  )
noncomputable def s68 (x0 : Value) (w : World) : Option (Value × World) :=
  (Qbin Try.prog Go.BinOp.geq 35 x0 (Go.Value.int Go.IntKind.u32 65536)).bind fun v1507 =>
  condK v1507 (
    (Qbin Try.prog Go.BinOp.shr 35 x0 (Go.Value.int Go.IntKind.u64 16)).bind fun v1508 =>
    s68M0 v1508 (Go.Value.int Go.IntKind.i64 16) w
  ) (
    s68M0 x0 (Go.Value.int Go.IntKind.i64 0) w
  )
theorem s68J1eq (s0 s1 s2 s3 s4 s5 s6 s7 s8 s9 s10 s11 s12 s13 s14 s15 s16 s17 s18 : Value) (w : World) : s68J1 [s0, s1, s2, s3, s4, s5, s6, s7, s8, s9, s10, s11, s12, s13, s14, s15, s16, s17, s18] [] w = s68M1 s0 s2 w := (show s68J1 [s0, s1, s2, s3, s4, s5, s6, s7, s8, s9, s10, s11, s12, s13, s14, s15, s16, s17, s18] [] w = evK Try.prog 68 none (nav [1, 1, 1] (bodyOf Try.f68)) none _ ⟨[s0, s1, s2, s3, s4, s5, s6, s7, s8, s9, s10, s11, s12, s13, s14, s15, s16, s17, s18].toArray, []⟩ w (leaveK Try.prog Try.f68) from by kernel_rfl).trans (by kernel_rfl)
theorem s68J1of {s0 s1 s2 s3 s4 s5 s6 s7 s8 s9 s10 s11 s12 s13 s14 s15 s16 s17 s18 : Value} {w : World} {r : _} (h : s68M1 s0 s2 w = some r) : s68J1 [s0, s1, s2, s3, s4, s5, s6, s7, s8, s9, s10, s11, s12, s13, s14, s15, s16, s17, s18] [] w = some r :=
  ((s68J1eq s0 s1 s2 s3 s4 s5 s6 s7 s8 s9 s10 s11 s12 s13 s14 s15 s16 s17 s18 w).trans h)
theorem s68J0eq (s0 s1 s2 s3 s4 s5 s6 s7 s8 s9 s10 s11 s12 s13 s14 s15 s16 s17 s18 : Value) (w : World) : s68J0 [s0, s1, s2, s3, s4, s5, s6, s7, s8, s9, s10, s11, s12, s13, s14, s15, s16, s17, s18] [] w = s68M0raw s0 s1 s2 s3 s4 s5 s6 s7 s8 s9 s10 s11 s12 s13 s14 s15 s16 s17 s18 w := (show s68J0 [s0, s1, s2, s3, s4, s5, s6, s7, s8, s9, s10, s11, s12, s13, s14, s15, s16, s17, s18] [] w = evK Try.prog 68 none (nav [1, 1] (bodyOf Try.f68)) none _ ⟨[s0, s1, s2, s3, s4, s5, s6, s7, s8, s9, s10, s11, s12, s13, s14, s15, s16, s17, s18].toArray, []⟩ w (leaveK Try.prog Try.f68) from by kernel_rfl).trans (by kernel_rfl)
theorem s68J0of {s0 s1 s2 s3 s4 s5 s6 s7 s8 s9 s10 s11 s12 s13 s14 s15 s16 s17 s18 : Value} {w : World} {r : _} (h : s68M0 s0 s2 w = some r) : s68J0 [s0, s1, s2, s3, s4, s5, s6, s7, s8, s9, s10, s11, s12, s13, s14, s15, s16, s17, s18] [] w = some r :=
  ((s68J0eq s0 s1 s2 s3 s4 s5 s6 s7 s8 s9 s10 s11 s12 s13 s14 s15 s16 s17 s18 w).trans ((Ev.bind_mono fun (v1509 : Value) => (condK_mono (Ev.bind_mono fun (v1510 : Value) => (Ev.bind_mono fun (v1511 : Value) => (s68J1of))) (s68J1of))) h))
theorem s68eq (x0 : Value) (w : World) : evK Try.prog 68 none (bodyOf Try.f68) none _ { tmps := (([x0] : List Value) ++ List.replicate (19 - 1) undef).toArray, defers := [] } w (leaveK Try.prog Try.f68) = s68raw x0 w := by kernel_rfl
theorem c68 {x0 : Value} {w : World} {r : Value × World} (h : s68 x0 w = some r) : C Try.prog 68 #[x0] w = some r :=
  C_ev follows_all drawLaw (by kernel_rfl) Try.func68 (by rfl) ((s68eq x0 w).trans (show s68raw x0 w = some r from (Ev.bind_mono fun (v1507 : Value) => (condK_mono (Ev.bind_mono fun (v1508 : Value) => (s68J0of)) (s68J0of))) h))
theorem e68 {x0 : Value} {w : World} {Q : Value × World → Prop} (h : Brings (s68 x0 w) Q) : Brings (Xcall Try.prog (Value.func (Fn.func 68) #[] #[]) #[x0] w) Q :=
  h.call (Xcall_fn Try.func68 (by decide +kernel) (by rfl) _ _ _ w) fun _ h => c68 h

/-! math/bits.Len64 -/
noncomputable def s69K0 : Exit → Act → World → Option (Value × World) := seqK (fun a w => evK Try.prog 69 none (nav [1, 1] (bodyOf Try.f69)) none _ a w (leaveK Try.prog Try.f69)) (leaveK Try.prog Try.f69)
noncomputable def s69J0 (s : List Value) (d : List Deferred) (w : World) : Option (Value × World) := s69K0 .normal ⟨s.toArray, d⟩ w
noncomputable def s69K1 : Exit → Act → World → Option (Value × World) := seqK (fun a w => evK Try.prog 69 none (nav [1, 1, 1] (bodyOf Try.f69)) none _ a w (leaveK Try.prog Try.f69)) (leaveK Try.prog Try.f69)
noncomputable def s69J1 (s : List Value) (d : List Deferred) (w : World) : Option (Value × World) := s69K1 .normal ⟨s.toArray, d⟩ w
noncomputable def s69K2 : Exit → Act → World → Option (Value × World) := seqK (fun a w => evK Try.prog 69 none (nav [1, 1, 1, 1] (bodyOf Try.f69)) none _ a w (leaveK Try.prog Try.f69)) (leaveK Try.prog Try.f69)
noncomputable def s69J2 (s : List Value) (d : List Deferred) (w : World) : Option (Value × World) := s69K2 .normal ⟨s.toArray, d⟩ w
noncomputable def s69M2 (s0 s2 : Value) (w : World) : Option (Value × World) :=
  (Qconv Try.prog 102 5 s0).bind fun v1524 =>
  (Qindex Try.prog 9 (Go.Value.string { data := (List.toArray (List.append (List.append [0, 1, 2, 2, 3, 3, 3, 3, 4, 4, 4, 4, 4, 4, 4, 4, 5, 5, 5, 5, 5, 5, 5, 5, 5, 5, 5, 5, 5, 5, 5, 5, 6, 6, 6, 6, 6, 6, 6, 6, 6, 6, 6, 6, 6, 6, 6, 6, 6, 6, 6, 6, 6, 6, 6, 6, 6, 6, 6, 6, 6, 6, 6, 6] [7, 7, 7, 7, 7, 7, 7, 7, 7, 7, 7, 7, 7, 7, 7, 7, 7, 7, 7, 7, 7, 7, 7, 7, 7, 7, 7, 7, 7, 7, 7, 7, 7, 7, 7, 7, 7, 7, 7, 7, 7, 7, 7, 7, 7, 7, 7, 7, 7, 7, 7, 7, 7, 7, 7, 7, 7, 7, 7, 7, 7, 7, 7, 7]) (List.append [8, 8, 8, 8, 8, 8, 8, 8, 8, 8, 8, 8, 8, 8, 8, 8, 8, 8, 8, 8, 8, 8, 8, 8, 8, 8, 8, 8, 8, 8, 8, 8, 8, 8, 8, 8, 8, 8, 8, 8, 8, 8, 8, 8, 8, 8, 8, 8, 8, 8, 8, 8, 8, 8, 8, 8, 8, 8, 8, 8, 8, 8, 8, 8] [8, 8, 8, 8, 8, 8, 8, 8, 8, 8, 8, 8, 8, 8, 8, 8, 8, 8, 8, 8, 8, 8, 8, 8, 8, 8, 8, 8, 8, 8, 8, 8, 8, 8, 8, 8, 8, 8, 8, 8, 8, 8, 8, 8, 8, 8, 8, 8, 8, 8, 8, 8, 8, 8, 8, 8, 8, 8, 8, 8, 8, 8, 8, 8]))) }) v1524 w).bind fun v1525 =>
  (Qconv Try.prog 5 3 v1525).bind fun v1526 =>
  (Qbin Try.prog Go.BinOp.add 3 s2 v1526).bind fun v1527 =>
  some (v1527, w)
noncomputable def s69M1raw (s0 s1 s2 s3 s4 s5 s6 s7 s8 s9 s10 s11 s12 _s13 _s14 s15 s16 s17 s18 s19 s20 s21 s22 s23 s24 : Value) (w : World) : Option (Value × World) :=
  (Qbin Try.prog Go.BinOp.geq 102 s0 (Go.Value.int Go.IntKind.u64 256)).bind fun v1521 =>
  condK v1521 (
    (Qbin Try.prog Go.BinOp.shr 102 s0 (Go.Value.int Go.IntKind.u64 8)).bind fun v1522 =>
    (Qbin Try.prog Go.BinOp.add 3 s2 (Go.Value.int Go.IntKind.i64 8)).bind fun v1523 =>
    s69J2 [v1522, s1, v1523, s3, s4, s5, s6, s7, s8, s9, s10, s11, s12, s0, v1521, s0, v1522, s2, v1523, s19, s20, s21, s22, s23, s24] [] w
  ) (
    s69J2 [s0, s1, s2, s3, s4, s5, s6, s7, s8, s9, s10, s11, s12, s0, v1521, s15, s16, s17, s18, s19, s20, s21, s22, s23, s24] [] w
  )
noncomputable def s69M1 (s0 s2 : Value) (w : World) : Option (Value × World) :=
  (Qbin Try.prog Go.BinOp.geq 102 s0 (Go.Value.int Go.IntKind.u64 256)).bind fun v1521 =>
  condK v1521 (
    (Qbin Try.prog Go.BinOp.shr 102 s0 (Go.Value.int Go.IntKind.u64 8)).bind fun v1522 =>
    (Qbin Try.prog Go.BinOp.add 3 s2 (Go.Value.int Go.IntKind.i64 8)).bind fun v1523 =>
    s69M2 v1522 v1523 w
  ) (
    s69M2 s0 s2 w
  )
noncomputable def s69M0raw (s0 s1 s2 s3 s4 s5 s6 _s7 _s8 s9 s10 s11 s12 s13 s14 s15 s16 s17 s18 s19 s20 s21 s22 s23 s24 : Value) (w : World) : Option (Value × World) :=
  (Qbin Try.prog Go.BinOp.geq 102 s0 (Go.Value.int Go.IntKind.u64 65536)).bind fun v1518 =>
  condK v1518 (
    (Qbin Try.prog Go.BinOp.shr 102 s0 (Go.Value.int Go.IntKind.u64 16)).bind fun v1519 =>
    (Qbin Try.prog Go.BinOp.add 3 s2 (Go.Value.int Go.IntKind.i64 16)).bind fun v1520 =>
    s69J1 [v1519, s1, v1520, s3, s4, s5, s6, s0, v1518, s0, v1519, s2, v1520, s13, s14, s15, s16, s17, s18, s19, s20, s21, s22, s23, s24] [] w
  ) (
    s69J1 [s0, s1, s2, s3, s4, s5, s6, s0, v1518, s9, s10, s11, s12, s13, s14, s15, s16, s17, s18, s19, s20, s21, s22, s23, s24] [] w
  )
noncomputable def s69M0 (s0 s2 : Value) (w : World) : Option (Value × World) :=
  (Qbin Try.prog Go.BinOp.geq 102 s0 (Go.Value.int Go.IntKind.u64 65536)).bind fun v1518 =>
  condK v1518 (
    (Qbin Try.prog Go.BinOp.shr 102 s0 (Go.Value.int Go.IntKind.u64 16)).bind fun v1519 =>
    (Qbin Try.prog Go.BinOp.add 3 s2 (Go.Value.int Go.IntKind.i64 16)).bind fun v1520 =>
    s69M1 v1519 v1520 w
  ) (
    s69M1 s0 s2 w
  )
noncomputable def s69raw (x0 : Value) (w : World) : Option (Value × World) :=
  (Qbin Try.prog Go.BinOp.geq 102 x0 (Go.Value.int Go.IntKind.u64 4294967296)).bind fun v1516 =>
  condK v1516 (
    (Qbin Try.prog Go.BinOp.shr 102 x0 (Go.Value.int Go.IntKind.u64 32)).bind fun v1517 =>
    s69J0 [v1517, undef, (Go.Value.int Go.IntKind.i64 32), x0, v1516, x0, v1517, undef, undef, undef, undef, undef, undef, undef, undef, undef, undef, undef, undef, undef, undef, undef, undef, undef, undef] [] w
  ) (
    s69J0 [x0, undef, (Go.Value.int Go.IntKind.i64 0), x0, v1516, undef, undef, undef, undef, undef, undef, undef, undef, undef, undef, undef, undef, undef, undef, undef, undef, undef, undef, undef, undef] [] w
  )
noncomputable def s69 (x0 : Value) (w : World) : Option (Value × World) :=
  (Qbin Try.prog Go.BinOp.geq 102 x0 (Go.Value.int Go.IntKind.u64 4294967296)).bind fun v1516 =>
  condK v1516 (
    (Qbin Try.prog Go.BinOp.shr 102 x0 (Go.Value.int Go.IntKind.u64 32)).bind fun v1517 =>
    s69M0 v1517 (Go.Value.int Go.IntKind.i64 32) w
  ) (
    s69M0 x0 (Go.Value.int Go.IntKind.i64 0) w
  )
theorem s69J2eq (s0 s1 s2 s3 s4 s5 s6 s7 s8 s9 s10 s11 s12 s13 s14 s15 s16 s17 s18 s19 s20 s21 s22 s23 s24 : Value) (w : World) : s69J2 [s0, s1, s2, s3, s4, s5, s6, s7, s8, s9, s10, s11, s12, s13, s14, s15, s16, s17, s18, s19, s20, s21, s22, s23, s24] [] w = s69M2 s0 s2 w := (show s69J2 [s0, s1, s2, s3, s4, s5, s6, s7, s8, s9, s10, s11, s12, s13, s14, s15, s16, s17, s18, s19, s20, s21, s22, s23, s24] [] w = evK Try.prog 69 none (nav [1, 1, 1, 1] (bodyOf Try.f69)) none _ ⟨[s0, s1, s2, s3, s4, s5, s6, s7, s8, s9, s10, s11, s12, s13, s14, s15, s16, s17, s18, s19, s20, s21, s22, s23, s24].toArray, []⟩ w (leaveK Try.prog Try.f69) from by kernel_rfl).trans (by kernel_rfl)
theorem s69J2of {s0 s1 s2 s3 s4 s5 s6 s7 s8 s9 s10 s11 s12 s13 s14 s15 s16 s17 s18 s19 s20 s21 s22 s23 s24 : Value} {w : World} {r : _} (h : s69M2 s0 s2 w = some r) : s69J2 [s0, s1, s2, s3, s4, s5, s6, s7, s8, s9, s10, s11, s12, s13, s14, s15, s16, s17, s18, s19, s20, s21, s22, s23, s24] [] w = some r :=
  ((s69J2eq s0 s1 s2 s3 s4 s5 s6 s7 s8 s9 s10 s11 s12 s13 s14 s15 s16 s17 s18 s19 s20 s21 s22 s23 s24 w).trans h)
theorem s69J1eq (s0 s1 s2 s3 s4 s5 s6 s7 s8 s9 s10 s11 s12 s13 s14 s15 s16 s17 s18 s19 s20 s21 s22 s23 s24 : Value) (w : World) : s69J1 [s0, s1, s2, s3, s4, s5, s6, s7, s8, s9, s10, s11, s12, s13, s14, s15, s16, s17, s18, s19, s20, s21, s22, s23, s24] [] w = s69M1raw s0 s1 s2 s3 s4 s5 s6 s7 s8 s9 s10 s11 s12 s13 s14 s15 s16 s17 s18 s19 s20 s21 s22 s23 s24 w := (show s69J1 [s0, s1, s2, s3, s4, s5, s6, s7, s8, s9, s10, s11, s12, s13, s14, s15, s16, s17, s18, s19, s20, s21, s22, s23, s24] [] w = evK Try.prog 69 none (nav [1, 1, 1] (bodyOf Try.f69)) none _ ⟨[s0, s1, s2, s3, s4, s5, s6, s7, s8, s9, s10, s11, s12, s13, s14, s15, s16, s17, s18, s19, s20, s21, s22, s23, s24].toArray, []⟩ w (leaveK Try.prog Try.f69) from by kernel_rfl).trans (by kernel_rfl)
theorem s69J1of {s0 s1 s2 s3 s4 s5 s6 s7 s8 s9 s10 s11 s12 s13 s14 s15 s16 s17 s18 s19 s20 s21 s22 s23 s24 : Value} {w : World} {r : _} (h : s69M1 s0 s2 w = some r) : s69J1 [s0, s1, s2, s3, s4, s5, s6, s7, s8, s9, s10, s11, s12, s13, s14, s15, s16, s17, s18, s19, s20, s21, s22, s23, s24] [] w = some r :=
  ((s69J1eq s0 s1 s2 s3 s4 s5 s6 s7 s8 s9 s10 s11 s12 s13 s14 s15 s16 s17 s18 s19 s20 s21 s22 s23 s24 w).trans ((Ev.bind_mono fun (v1521 : Value) => (condK_mono (Ev.bind_mono fun (v1522 : Value) => (Ev.bind_mono fun (v1523 : Value) => (s69J2of))) (s69J2of))) h))
theorem s69J0eq (s0 s1 s2 s3 s4 s5 s6 s7 s8 s9 s10 s11 s12 s13 s14 s15 s16 s17 s18 s19 s20 s21 s22 s23 s24 : Value) (w : World) : s69J0 [s0, s1, s2, s3, s4, s5, s6, s7, s8, s9, s10, s11, s12, s13, s14, s15, s16, s17, s18, s19, s20, s21, s22, s23, s24] [] w = s69M0raw s0 s1 s2 s3 s4 s5 s6 s7 s8 s9 s10 s11 s12 s13 s14 s15 s16 s17 s18 s19 s20 s21 s22 s23 s24 w := (show s69J0 [s0, s1, s2, s3, s4, s5, s6, s7, s8, s9, s10, s11, s12, s13, s14, s15, s16, s17, s18, s19, s20, s21, s22, s23, s24] [] w = evK Try.prog 69 none (nav [1, 1] (bodyOf Try.f69)) none _ ⟨[s0, s1, s2, s3, s4, s5, s6, s7, s8, s9, s10, s11, s12, s13, s14, s15, s16, s17, s18, s19, s20, s21, s22, s23, s24].toArray, []⟩ w (leaveK Try.prog Try.f69) from by kernel_rfl).trans (by kernel_rfl)
theorem s69J0of {s0 s1 s2 s3 s4 s5 s6 s7 s8 s9 s10 s11 s12 s13 s14 s15 s16 s17 s18 s19 s20 s21 s22 s23 s24 : Value} {w : World} {r : _} (h : s69M0 s0 s2 w = some r) : s69J0 [s0, s1, s2, s3, s4, s5, s6, s7, s8, s9, s10, s11, s12, s13, s14, s15, s16, s17, s18, s19, s20, s21, s22, s23, s24] [] w = some r :=
  ((s69J0eq s0 s1 s2 s3 s4 s5 s6 s7 s8 s9 s10 s11 s12 s13 s14 s15 s16 s17 s18 s19 s20 s21 s22 s23 s24 w).trans ((Ev.bind_mono fun (v1518 : Value) => (condK_mono (Ev.bind_mono fun (v1519 : Value) => (Ev.bind_mono fun (v1520 : Value) => (s69J1of))) (s69J1of))) h))
theorem s69eq (x0 : Value) (w : World) : evK Try.prog 69 none (bodyOf Try.f69) none _ { tmps := (([x0] : List Value) ++ List.replicate (25 - 1) undef).toArray, defers := [] } w (leaveK Try.prog Try.f69) = s69raw x0 w := by kernel_rfl
theorem c69 {x0 : Value} {w : World} {r : Value × World} (h : s69 x0 w = some r) : C Try.prog 69 #[x0] w = some r :=
  C_ev follows_all drawLaw (by kernel_rfl) Try.func69 (by rfl) ((s69eq x0 w).trans (show s69raw x0 w = some r from (Ev.bind_mono fun (v1516 : Value) => (condK_mono (Ev.bind_mono fun (v1517 : Value) => (s69J0of)) (s69J0of))) h))
theorem e69 {x0 : Value} {w : World} {Q : Value × World → Prop} (h : Brings (s69 x0 w) Q) : Brings (Xcall Try.prog (Value.func (Fn.func 69) #[] #[]) #[x0] w) Q :=
  h.call (Xcall_fn Try.func69 (by decide +kernel) (by rfl) _ _ _ w) fun _ h => c69 h

/-! cmp.isNaN[int] -/
noncomputable def s70 (x0 : Value) (w : World) : Option (Value × World) :=
  (Qbin Try.prog Go.BinOp.neq 3 x0 x0).bind fun v1528 =>
  some (v1528, w)
theorem s70eq (x0 : Value) (w : World) : evK Try.prog 70 none (bodyOf Try.f70) none _ { tmps := (([x0] : List Value) ++ List.replicate (6 - 1) undef).toArray, defers := [] } w (leaveK Try.prog Try.f70) = s70 x0 w := by kernel_rfl
theorem c70 {x0 : Value} {w : World} {r : Value × World} (h : s70 x0 w = some r) : C Try.prog 70 #[x0] w = some r :=
  C_ev follows_all drawLaw (by kernel_rfl) Try.func70 (by rfl) ((s70eq x0 w).trans h)
theorem e70 {x0 : Value} {w : World} {Q : Value × World → Prop} (h : Brings (s70 x0 w) Q) : Brings (Xcall Try.prog (Value.func (Fn.func 70) #[] #[]) #[x0] w) Q :=
  h.call (Xcall_fn Try.func70 (by decide +kernel) (by rfl) _ _ _ w) fun _ h => c70 h

/-! slices.siftDownCmpFunc[lychgate/table.row[lychgate/api.Tuple, int]] -/
noncomputable def s71K0 : Exit → Act → World → Option (Value × World) := blockK 0 (leaveK Try.prog Try.f71)
noncomputable def s71L0 (s : List Value) (d : List Deferred) (w : World) : Option (Value × World) := loopN Try.prog 71 none (nav [1, 0, 0] (bodyOf Try.f71)) s71K0 s d w
noncomputable def s71K1 : Exit → Act → World → Option (Exit × List Value × World) := blockK 1 (projK [0, 2, 3, 4, 10])
noncomputable def s71K2 : Exit → Act → World → Option (Exit × List Value × World) := seqK (fun a w => evK Try.prog 71 none (nav [1, 0, 0, 0, 1, 1, 1] (bodyOf Try.f71)) none _ a w s71K1) s71K1
noncomputable def s71J1 (s : List Value) (d : List Deferred) (w : World) : Option (Exit × List Value × World) := s71K2 .normal ⟨s.toArray, d⟩ w
noncomputable def s71M1 (s0 s2 s3 s4 s10 s11 : Value) (w : World) : Option (Exit × List Value × World) :=
  (Qbin Try.prog Go.BinOp.add 3 s3 s10).bind fun v1545 =>
  (QindexAddr Try.prog 62 s0 v1545 w.drew).bind fun v1546 =>
  (Qload Try.prog 73 v1546 w.drew).bind fun v1547 =>
  (Qbin Try.prog Go.BinOp.add 3 s3 s11).bind fun v1548 =>
  (QindexAddr Try.prog 62 s0 v1548 w.drew).bind fun v1549 =>
  (Qload Try.prog 73 v1549 w.drew).bind fun v1550 =>
  (Xcall Try.prog s4 #[v1547, v1550] w.drew).bind fun r1551 =>
  (Qbin Try.prog Go.BinOp.lss 3 r1551.1 (Go.Value.int Go.IntKind.i64 0)).bind fun v1552 =>
  (Qun Go.UnOp.not v1552).bind fun v1553 =>
  chkK True (
    condK v1553 (
      some (Exit.ret, [s0, s2, s3, s4, s10], r1551.2)
    ) (
      (Qbin Try.prog Go.BinOp.add 3 s3 s10).bind fun v1554 =>
      (Qbin Try.prog Go.BinOp.add 3 s3 s11).bind fun v1555 =>
      (Qbin Try.prog Go.BinOp.add 3 s3 s11).bind fun v1556 =>
      (QindexAddr Try.prog 62 s0 v1556 r1551.2.drew).bind fun v1557 =>
      (Qload Try.prog 73 v1557 r1551.2.drew).bind fun v1558 =>
      (Qbin Try.prog Go.BinOp.add 3 s3 s10).bind fun v1559 =>
      (QindexAddr Try.prog 62 s0 v1559 r1551.2.drew).bind fun v1560 =>
      (Qload Try.prog 73 v1560 r1551.2.drew).bind fun v1561 =>
      (QindexAddr Try.prog 62 s0 v1554 r1551.2.drew).bind fun v1562 =>
      (Xstore Try.prog 73 v1562 v1558 r1551.2.drew).bind fun r1563 =>
      (QindexAddr Try.prog 62 s0 v1555 r1563.2).bind fun v1564 =>
      (Xstore Try.prog 73 v1564 v1561 r1563.2).bind fun r1565 =>
      chkK True (
        some (Exit.normal, [s0, s2, s3, s4, s11], r1565.2)
      )
    )
  )
noncomputable def s71B0raw (g : Nat → Value) (d : List Deferred) : List Value → World → Option (Exit × List Value × World)
  | [x0, x2, x3, x4, x10], w =>
    (Qbin Try.prog Go.BinOp.mul 3 (Go.Value.int Go.IntKind.i64 2) x10).bind fun v1529 =>
    (Qbin Try.prog Go.BinOp.add 3 v1529 (Go.Value.int Go.IntKind.i64 1)).bind fun v1530 =>
    (Qbin Try.prog Go.BinOp.geq 3 v1530 x2).bind fun v1531 =>
    condK v1531 (
      some ((Exit.exit 0), [x0, x2, x3, x4, x10], w)
    ) (
      (Qbin Try.prog Go.BinOp.add 3 v1530 (Go.Value.int Go.IntKind.i64 1)).bind fun v1532 =>
      (Qbin Try.prog Go.BinOp.lss 3 v1532 x2).bind fun v1533 =>
      (guardQ v1533 true (Qbin Try.prog Go.BinOp.add 3 (gv (isB v1533 true) x3) (gv (isB v1533 true) v1530))).bind fun v1534 =>
      (guardQ v1533 true (QindexAddr Try.prog 62 (gv (isB v1533 true) x0) v1534 w.drew)).bind fun v1535 =>
      (guardQ v1533 true (Qload Try.prog 73 v1535 w.drew)).bind fun v1536 =>
      (guardQ v1533 true (Qbin Try.prog Go.BinOp.add 3 (gv (isB v1533 true) x3) (gv (isB v1533 true) v1530))).bind fun v1537 =>
      (guardQ v1533 true (Qbin Try.prog Go.BinOp.add 3 v1537 (Go.Value.int Go.IntKind.i64 1))).bind fun v1538 =>
      (guardQ v1533 true (QindexAddr Try.prog 62 (gv (isB v1533 true) x0) v1538 w.drew)).bind fun v1539 =>
      (guardQ v1533 true (Qload Try.prog 73 v1539 w.drew)).bind fun v1540 =>
      (guardX v1533 true w.drew (Xcall Try.prog (gv (isB v1533 true) x4) #[v1536, v1540] w.drew)).bind fun r1541 =>
      (guardQ v1533 true (Qbin Try.prog Go.BinOp.lss 3 r1541.1 (Go.Value.int Go.IntKind.i64 0))).bind fun v1542 =>
      (Qpick v1533 v1542 (Go.Value.bool false)).bind fun v1543 =>
      chkK True (
        condK v1543 (
          (Qbin Try.prog Go.BinOp.add 3 v1530 (Go.Value.int Go.IntKind.i64 1)).bind fun v1544 =>
          s71J1 [x0, (g 1), x2, x3, x4, (g 5), (g 6), (g 7), (g 8), (g 9), x10, v1544, (g 12), x10, v1529, v1530, v1530, x2, v1531, v1530, v1532, x2, v1533, v1533, (gv (isB v1533 true) x4), (gv (isB v1533 true) x0), (gv (isB v1533 true) x3), (gv (isB v1533 true) v1530), v1534, v1535, v1536, (gv (isB v1533 true) x0), (gv (isB v1533 true) x3), (gv (isB v1533 true) v1530), v1537, v1538, v1539, v1540, r1541.1, v1542, v1543, v1530, v1544, (g 43), (g 44), (g 45), (g 46), (g 47), (g 48), (g 49), (g 50), (g 51), (g 52), (g 53), (g 54), (g 55), (g 56), (g 57), (g 58), (g 59), (g 60), (g 61), (g 62), (g 63), (g 64), (g 65), (g 66), (g 67), (g 68), (g 69), (g 70), (g 71), (g 72), (g 73), (g 74), (g 75), (g 76), (g 77), (g 78), (g 79), (g 80), (g 81)] d r1541.2
        ) (
          s71J1 [x0, (g 1), x2, x3, x4, (g 5), (g 6), (g 7), (g 8), (g 9), x10, v1530, (g 12), x10, v1529, v1530, v1530, x2, v1531, v1530, v1532, x2, v1533, v1533, (gv (isB v1533 true) x4), (gv (isB v1533 true) x0), (gv (isB v1533 true) x3), (gv (isB v1533 true) v1530), v1534, v1535, v1536, (gv (isB v1533 true) x0), (gv (isB v1533 true) x3), (gv (isB v1533 true) v1530), v1537, v1538, v1539, v1540, r1541.1, v1542, v1543, (g 41), (g 42), (g 43), (g 44), (g 45), (g 46), (g 47), (g 48), (g 49), (g 50), (g 51), (g 52), (g 53), (g 54), (g 55), (g 56), (g 57), (g 58), (g 59), (g 60), (g 61), (g 62), (g 63), (g 64), (g 65), (g 66), (g 67), (g 68), (g 69), (g 70), (g 71), (g 72), (g 73), (g 74), (g 75), (g 76), (g 77), (g 78), (g 79), (g 80), (g 81)] d r1541.2
        )
      )
    )
  | _, _ => none
noncomputable def s71B0 : List Value → World → Option (Exit × List Value × World)
  | [x0, x2, x3, x4, x10], w =>
    (Qbin Try.prog Go.BinOp.mul 3 (Go.Value.int Go.IntKind.i64 2) x10).bind fun v1529 =>
    (Qbin Try.prog Go.BinOp.add 3 v1529 (Go.Value.int Go.IntKind.i64 1)).bind fun v1530 =>
    (Qbin Try.prog Go.BinOp.geq 3 v1530 x2).bind fun v1531 =>
    condK v1531 (
      some ((Exit.exit 0), [x0, x2, x3, x4, x10], w)
    ) (
      (Qbin Try.prog Go.BinOp.add 3 v1530 (Go.Value.int Go.IntKind.i64 1)).bind fun v1532 =>
      (Qbin Try.prog Go.BinOp.lss 3 v1532 x2).bind fun v1533 =>
      (guardQ v1533 true (Qbin Try.prog Go.BinOp.add 3 (gv (isB v1533 true) x3) (gv (isB v1533 true) v1530))).bind fun v1534 =>
      (guardQ v1533 true (QindexAddr Try.prog 62 (gv (isB v1533 true) x0) v1534 w.drew)).bind fun v1535 =>
      (guardQ v1533 true (Qload Try.prog 73 v1535 w.drew)).bind fun v1536 =>
      (guardQ v1533 true (Qbin Try.prog Go.BinOp.add 3 (gv (isB v1533 true) x3) (gv (isB v1533 true) v1530))).bind fun v1537 =>
      (guardQ v1533 true (Qbin Try.prog Go.BinOp.add 3 v1537 (Go.Value.int Go.IntKind.i64 1))).bind fun v1538 =>
      (guardQ v1533 true (QindexAddr Try.prog 62 (gv (isB v1533 true) x0) v1538 w.drew)).bind fun v1539 =>
      (guardQ v1533 true (Qload Try.prog 73 v1539 w.drew)).bind fun v1540 =>
      (guardX v1533 true w.drew (Xcall Try.prog (gv (isB v1533 true) x4) #[v1536, v1540] w.drew)).bind fun r1541 =>
      (guardQ v1533 true (Qbin Try.prog Go.BinOp.lss 3 r1541.1 (Go.Value.int Go.IntKind.i64 0))).bind fun v1542 =>
      (Qpick v1533 v1542 (Go.Value.bool false)).bind fun v1543 =>
      chkK True (
        condK v1543 (
          (Qbin Try.prog Go.BinOp.add 3 v1530 (Go.Value.int Go.IntKind.i64 1)).bind fun v1544 =>
          s71M1 x0 x2 x3 x4 x10 v1544 r1541.2
        ) (
          s71M1 x0 x2 x3 x4 x10 v1530 r1541.2
        )
      )
    )
  | _, _ => none
noncomputable def s71R0 : Exit → List Value → World → Option (Value × World)
  | (Exit.exit 0), [_, _, _, _, _], w =>
    some ((Value.tuple #[]), w)
  | Exit.ret, [_, _, _, _, _], w =>
    some ((Value.tuple #[]), w)
  | _, _, _ => none
noncomputable def s71raw (x0 x1 x2 x3 x4 : Value) (w : World) : Option (Value × World) :=
  s71L0 [x0, x1, x2, x3, x4, undef, undef, undef, undef, undef, x1, undef, x1, undef, undef, undef, undef, undef, undef, undef, undef, undef, undef, undef, undef, undef, undef, undef, undef, undef, undef, undef, undef, undef, undef, undef, undef, undef, undef, undef, undef, undef, undef, undef, undef, undef, undef, undef, undef, undef, undef, undef, undef, undef, undef, undef, undef, undef, undef, undef, undef, undef, undef, undef, undef, undef, undef, undef, undef, undef, undef, undef, undef, undef, undef, undef, undef, undef, undef, undef, undef, undef] [] w
noncomputable def s71 (x0 x1 x2 x3 x4 : Value) (w : World) : Option (Value × World) :=
  loopR s71B0 s71R0 [x0, x2, x3, x4, x1] w
theorem s71J1eq (s0 s1 s2 s3 s4 s5 s6 s7 s8 s9 s10 s11 s12 s13 s14 s15 s16 s17 s18 s19 s20 s21 s22 s23 s24 s25 s26 s27 s28 s29 s30 s31 s32 s33 s34 s35 s36 s37 s38 s39 s40 s41 s42 s43 s44 s45 s46 s47 s48 s49 s50 s51 s52 s53 s54 s55 s56 s57 s58 s59 s60 s61 s62 s63 s64 s65 s66 s67 s68 s69 s70 s71 s72 s73 s74 s75 s76 s77 s78 s79 s80 s81 : Value) (w : World) : s71J1 [s0, s1, s2, s3, s4, s5, s6, s7, s8, s9, s10, s11, s12, s13, s14, s15, s16, s17, s18, s19, s20, s21, s22, s23, s24, s25, s26, s27, s28, s29, s30, s31, s32, s33, s34, s35, s36, s37, s38, s39, s40, s41, s42, s43, s44, s45, s46, s47, s48, s49, s50, s51, s52, s53, s54, s55, s56, s57, s58, s59, s60, s61, s62, s63, s64, s65, s66, s67, s68, s69, s70, s71, s72, s73, s74, s75, s76, s77, s78, s79, s80, s81] [] w = s71M1 s0 s2 s3 s4 s10 s11 w := (show s71J1 [s0, s1, s2, s3, s4, s5, s6, s7, s8, s9, s10, s11, s12, s13, s14, s15, s16, s17, s18, s19, s20, s21, s22, s23, s24, s25, s26, s27, s28, s29, s30, s31, s32, s33, s34, s35, s36, s37, s38, s39, s40, s41, s42, s43, s44, s45, s46, s47, s48, s49, s50, s51, s52, s53, s54, s55, s56, s57, s58, s59, s60, s61, s62, s63, s64, s65, s66, s67, s68, s69, s70, s71, s72, s73, s74, s75, s76, s77, s78, s79, s80, s81] [] w = evK Try.prog 71 none (nav [1, 0, 0, 0, 1, 1, 1] (bodyOf Try.f71)) none _ ⟨[s0, s1, s2, s3, s4, s5, s6, s7, s8, s9, s10, s11, s12, s13, s14, s15, s16, s17, s18, s19, s20, s21, s22, s23, s24, s25, s26, s27, s28, s29, s30, s31, s32, s33, s34, s35, s36, s37, s38, s39, s40, s41, s42, s43, s44, s45, s46, s47, s48, s49, s50, s51, s52, s53, s54, s55, s56, s57, s58, s59, s60, s61, s62, s63, s64, s65, s66, s67, s68, s69, s70, s71, s72, s73, s74, s75, s76, s77, s78, s79, s80, s81].toArray, []⟩ w s71K1 from by kernel_rfl).trans (by kernel_rfl)
theorem s71J1of {s0 s1 s2 s3 s4 s5 s6 s7 s8 s9 s10 s11 s12 s13 s14 s15 s16 s17 s18 s19 s20 s21 s22 s23 s24 s25 s26 s27 s28 s29 s30 s31 s32 s33 s34 s35 s36 s37 s38 s39 s40 s41 s42 s43 s44 s45 s46 s47 s48 s49 s50 s51 s52 s53 s54 s55 s56 s57 s58 s59 s60 s61 s62 s63 s64 s65 s66 s67 s68 s69 s70 s71 s72 s73 s74 s75 s76 s77 s78 s79 s80 s81 : Value} {w : World} {r : _} (h : s71M1 s0 s2 s3 s4 s10 s11 w = some r) : s71J1 [s0, s1, s2, s3, s4, s5, s6, s7, s8, s9, s10, s11, s12, s13, s14, s15, s16, s17, s18, s19, s20, s21, s22, s23, s24, s25, s26, s27, s28, s29, s30, s31, s32, s33, s34, s35, s36, s37, s38, s39, s40, s41, s42, s43, s44, s45, s46, s47, s48, s49, s50, s51, s52, s53, s54, s55, s56, s57, s58, s59, s60, s61, s62, s63, s64, s65, s66, s67, s68, s69, s70, s71, s72, s73, s74, s75, s76, s77, s78, s79, s80, s81] [] w = some r :=
  ((s71J1eq s0 s1 s2 s3 s4 s5 s6 s7 s8 s9 s10 s11 s12 s13 s14 s15 s16 s17 s18 s19 s20 s21 s22 s23 s24 s25 s26 s27 s28 s29 s30 s31 s32 s33 s34 s35 s36 s37 s38 s39 s40 s41 s42 s43 s44 s45 s46 s47 s48 s49 s50 s51 s52 s53 s54 s55 s56 s57 s58 s59 s60 s61 s62 s63 s64 s65 s66 s67 s68 s69 s70 s71 s72 s73 s74 s75 s76 s77 s78 s79 s80 s81 w).trans h)
theorem s71B0eq (x0 x2 x3 x4 x10 : Value) (w : World) (g : Nat → Value) (d : List Deferred) : evK Try.prog 71 none (nav [1, 0, 0] (bodyOf Try.f71)) none _ (frm 82 (setL [0, 2, 3, 4, 10] [x0, x2, x3, x4, x10] g) d) w (projK [0, 2, 3, 4, 10]) = s71B0raw g d [x0, x2, x3, x4, x10] w := by kernel_rfl
theorem s71R0x0eq (x0 x2 x3 x4 x10 : Value) (g : Nat → Value) (w : World) : s71K0 (Exit.exit 0) (frm 82 (setL [0, 2, 3, 4, 10] [x0, x2, x3, x4, x10] g) []) w = s71R0 (Exit.exit 0) [x0, x2, x3, x4, x10] w := by kernel_rfl
theorem s71R0ret_eq (x0 x2 x3 x4 x10 : Value) (g : Nat → Value) (w : World) : s71K0 Exit.ret (frm 82 (setL [0, 2, 3, 4, 10] [x0, x2, x3, x4, x10] g) []) w = s71R0 Exit.ret [x0, x2, x3, x4, x10] w := by kernel_rfl
theorem s71R0of : ∀ (e : Exit) (xs : List Value) (w : World) (g : Nat → Value) (y : _), s71R0 e xs w = some y → s71K0 e (frm 82 (setL [0, 2, 3, 4, 10] xs g) []) w = some y := by
  intro e xs w g y h
  unfold s71R0 at h
  split at h
  · exact (s71R0x0eq _ _ _ _ _ g _).trans h
  · exact (s71R0ret_eq _ _ _ _ _ g _).trans h
  · cases h
set_option maxRecDepth 20000 in
theorem s71L0of {s0 s1 s2 s3 s4 s5 s6 s7 s8 s9 s10 s11 s12 s13 s14 s15 s16 s17 s18 s19 s20 s21 s22 s23 s24 s25 s26 s27 s28 s29 s30 s31 s32 s33 s34 s35 s36 s37 s38 s39 s40 s41 s42 s43 s44 s45 s46 s47 s48 s49 s50 s51 s52 s53 s54 s55 s56 s57 s58 s59 s60 s61 s62 s63 s64 s65 s66 s67 s68 s69 s70 s71 s72 s73 s74 s75 s76 s77 s78 s79 s80 s81 : Value} {w : World} {r : _} (h : loopR s71B0 s71R0 [s0, s2, s3, s4, s10] w = some r) : s71L0 [s0, s1, s2, s3, s4, s5, s6, s7, s8, s9, s10, s11, s12, s13, s14, s15, s16, s17, s18, s19, s20, s21, s22, s23, s24, s25, s26, s27, s28, s29, s30, s31, s32, s33, s34, s35, s36, s37, s38, s39, s40, s41, s42, s43, s44, s45, s46, s47, s48, s49, s50, s51, s52, s53, s54, s55, s56, s57, s58, s59, s60, s61, s62, s63, s64, s65, s66, s67, s68, s69, s70, s71, s72, s73, s74, s75, s76, s77, s78, s79, s80, s81] [] w = some r :=
  loopN_of (B := s71B0) (R := s71R0) (n := 82) (live := [0, 2, 3, 4, 10]) (fun xs w g y hl h => match xs, hl, h with | [x0, x2, x3, x4, x10], _, h => (s71B0eq x0 x2 x3 x4 x10 w g []).trans (show s71B0raw g [] [x0, x2, x3, x4, x10] w = some y from (Ev.bind_mono fun (v1529 : Value) => (Ev.bind_mono fun (v1530 : Value) => (Ev.bind_mono fun (v1531 : Value) => (condK_mono id (Ev.bind_mono fun (v1532 : Value) => (Ev.bind_mono fun (v1533 : Value) => (Ev.bind_mono fun (v1534 : Value) => (Ev.bind_mono fun (v1535 : Value) => (Ev.bind_mono fun (v1536 : Value) => (Ev.bind_mono fun (v1537 : Value) => (Ev.bind_mono fun (v1538 : Value) => (Ev.bind_mono fun (v1539 : Value) => (Ev.bind_mono fun (v1540 : Value) => (Ev.bind_mono fun (r1541 : Value × World) => (Ev.bind_mono fun (v1542 : Value) => (Ev.bind_mono fun (v1543 : Value) => (chkK_mono (condK_mono (Ev.bind_mono fun (v1544 : Value) => (s71J1of)) (s71J1of))))))))))))))))))) h)) (by kernel_rfl) (s71R0of) (fun i => ([s0, s1, s2, s3, s4, s5, s6, s7, s8, s9, s10, s11, s12, s13, s14, s15, s16, s17, s18, s19, s20, s21, s22, s23, s24, s25, s26, s27, s28, s29, s30, s31, s32, s33, s34, s35, s36, s37, s38, s39, s40, s41, s42, s43, s44, s45, s46, s47, s48, s49, s50, s51, s52, s53, s54, s55, s56, s57, s58, s59, s60, s61, s62, s63, s64, s65, s66, s67, s68, s69, s70, s71, s72, s73, s74, s75, s76, s77, s78, s79, s80, s81] : List Value).getD i undef) (by kernel_rfl) rfl h
theorem s71eq (x0 x1 x2 x3 x4 : Value) (w : World) : evK Try.prog 71 none (bodyOf Try.f71) none _ { tmps := (([x0, x1, x2, x3, x4] : List Value) ++ List.replicate (82 - 5) undef).toArray, defers := [] } w (leaveK Try.prog Try.f71) = s71raw x0 x1 x2 x3 x4 w := by kernel_rfl
theorem c71 {x0 x1 x2 x3 x4 : Value} {w : World} {r : Value × World} (h : s71 x0 x1 x2 x3 x4 w = some r) : C Try.prog 71 #[x0, x1, x2, x3, x4] w = some r :=
  C_ev follows_all drawLaw (by kernel_rfl) Try.func71 (by rfl) ((s71eq x0 x1 x2 x3 x4 w).trans (show s71raw x0 x1 x2 x3 x4 w = some r from (s71L0of) h))
theorem e71 {x0 x1 x2 x3 x4 : Value} {w : World} {Q : Value × World → Prop} (h : Brings (s71 x0 x1 x2 x3 x4 w) Q) : Brings (Xcall Try.prog (Value.func (Fn.func 71) #[] #[]) #[x0, x1, x2, x3, x4] w) Q :=
  h.call (Xcall_fn Try.func71 (by decide +kernel) (by rfl) _ _ _ w) fun _ h => c71 h

/-! slices.nextPowerOfTwo -/
noncomputable def s72 (x0 : Value) (w : World) : Option (Value × World) :=
  (Qconv Try.prog 3 93 x0).bind fun v1566 =>
  (Xcall Try.prog (Value.func (Fn.func 51) #[] #[]) #[v1566] w).bind fun r1567 =>
  (Qbin Try.prog Go.BinOp.shl 93 (Go.Value.int Go.IntKind.u64 1) r1567.1).bind fun v1568 =>
  some (v1568, r1567.2)
theorem s72eq (x0 : Value) (w : World) : evK Try.prog 72 none (bodyOf Try.f72) none _ { tmps := (([x0] : List Value) ++ List.replicate (7 - 1) undef).toArray, defers := [] } w (leaveK Try.prog Try.f72) = s72 x0 w := by kernel_rfl
theorem c72 {x0 : Value} {w : World} {r : Value × World} (h : s72 x0 w = some r) : C Try.prog 72 #[x0] w = some r :=
  C_ev follows_all drawLaw (by kernel_rfl) Try.func72 (by rfl) ((s72eq x0 w).trans h)
theorem e72 {x0 : Value} {w : World} {Q : Value × World → Prop} (h : Brings (s72 x0 w) Q) : Brings (Xcall Try.prog (Value.func (Fn.func 72) #[] #[]) #[x0] w) Q :=
  h.call (Xcall_fn Try.func72 (by decide +kernel) (by rfl) _ _ _ w) fun _ h => c72 h

/-! (*slices.xorshift).Next -/
noncomputable def s73 (x0 : Value) (w : World) : Option (Value × World) :=
  (Qnil x0).bind fun v1569 =>
  (Qload Try.prog 116 v1569 w.drew).bind fun v1570 =>
  (Qnil x0).bind fun v1571 =>
  (Qload Try.prog 116 v1571 w.drew).bind fun v1572 =>
  (Qbin Try.prog Go.BinOp.shl 116 v1572 (Go.Value.int Go.IntKind.u64 13)).bind fun v1573 =>
  (Qbin Try.prog Go.BinOp.xor 116 v1570 v1573).bind fun v1574 =>
  (Qnil x0).bind fun v1575 =>
  (Xstore Try.prog 116 v1575 v1574 w.drew).bind fun r1576 =>
  chkK True (
    (Qnil x0).bind fun v1577 =>
    (Qload Try.prog 116 v1577 r1576.2.drew).bind fun v1578 =>
    (Qnil x0).bind fun v1579 =>
    (Qload Try.prog 116 v1579 r1576.2.drew).bind fun v1580 =>
    (Qbin Try.prog Go.BinOp.shr 116 v1580 (Go.Value.int Go.IntKind.u64 7)).bind fun v1581 =>
    (Qbin Try.prog Go.BinOp.xor 116 v1578 v1581).bind fun v1582 =>
    (Qnil x0).bind fun v1583 =>
    (Xstore Try.prog 116 v1583 v1582 r1576.2.drew).bind fun r1584 =>
    chkK True (
      (Qnil x0).bind fun v1585 =>
      (Qload Try.prog 116 v1585 r1584.2.drew).bind fun v1586 =>
      (Qnil x0).bind fun v1587 =>
      (Qload Try.prog 116 v1587 r1584.2.drew).bind fun v1588 =>
      (Qbin Try.prog Go.BinOp.shl 116 v1588 (Go.Value.int Go.IntKind.u64 17)).bind fun v1589 =>
      (Qbin Try.prog Go.BinOp.xor 116 v1586 v1589).bind fun v1590 =>
      (Qnil x0).bind fun v1591 =>
      (Xstore Try.prog 116 v1591 v1590 r1584.2.drew).bind fun r1592 =>
      chkK True (
        (Qnil x0).bind fun v1593 =>
        (Qload Try.prog 116 v1593 r1592.2).bind fun v1594 =>
        some (v1594, r1592.2)
      )
    )
  )
theorem s73eq (x0 : Value) (w : World) : evK Try.prog 73 none (bodyOf Try.f73) none _ { tmps := (([x0] : List Value) ++ List.replicate (33 - 1) undef).toArray, defers := [] } w (leaveK Try.prog Try.f73) = s73 x0 w := by kernel_rfl
theorem c73 {x0 : Value} {w : World} {r : Value × World} (h : s73 x0 w = some r) : C Try.prog 73 #[x0] w = some r :=
  C_ev follows_all drawLaw (by kernel_rfl) Try.func73 (by rfl) ((s73eq x0 w).trans h)
theorem e73 {x0 : Value} {w : World} {Q : Value × World → Prop} (h : Brings (s73 x0 w) Q) : Brings (Xcall Try.prog (Value.func (Fn.func 73) #[] #[]) #[x0] w) Q :=
  h.call (Xcall_fn Try.func73 (by decide +kernel) (by rfl) _ _ _ w) fun _ h => c73 h

/-! slices.medianAdjacentCmpFunc[lychgate/table.row[lychgate/api.Tuple, int]] -/
noncomputable def s74 (x0 x1 x2 x3 : Value) (w : World) : Option (Value × World) :=
  (Qbin Try.prog Go.BinOp.sub 3 x1 (Go.Value.int Go.IntKind.i64 1)).bind fun v1595 =>
  (Qbin Try.prog Go.BinOp.add 3 x1 (Go.Value.int Go.IntKind.i64 1)).bind fun v1596 =>
  (Xcall Try.prog (Value.func (Fn.func 75) #[] #[]) #[x0, v1595, x1, v1596, x2, x3] w).bind fun r1597 =>
  some (r1597.1, r1597.2)
theorem s74eq (x0 x1 x2 x3 : Value) (w : World) : evK Try.prog 74 none (bodyOf Try.f74) none _ { tmps := (([x0, x1, x2, x3] : List Value) ++ List.replicate (18 - 4) undef).toArray, defers := [] } w (leaveK Try.prog Try.f74) = s74 x0 x1 x2 x3 w := by kernel_rfl
theorem c74 {x0 x1 x2 x3 : Value} {w : World} {r : Value × World} (h : s74 x0 x1 x2 x3 w = some r) : C Try.prog 74 #[x0, x1, x2, x3] w = some r :=
  C_ev follows_all drawLaw (by kernel_rfl) Try.func74 (by rfl) ((s74eq x0 x1 x2 x3 w).trans h)
theorem e74 {x0 x1 x2 x3 : Value} {w : World} {Q : Value × World → Prop} (h : Brings (s74 x0 x1 x2 x3 w) Q) : Brings (Xcall Try.prog (Value.func (Fn.func 74) #[] #[]) #[x0, x1, x2, x3] w) Q :=
  h.call (Xcall_fn Try.func74 (by decide +kernel) (by rfl) _ _ _ w) fun _ h => c74 h

/-! slices.medianCmpFunc[lychgate/table.row[lychgate/api.Tuple, int]] -/
noncomputable def s75 (x0 x1 x2 x3 x4 x5 : Value) (w : World) : Option (Value × World) :=
  (Xcall Try.prog (Value.func (Fn.func 76) #[] #[]) #[x0, x1, x2, x4, x5] w).bind fun r1598 =>
  (Qext r1598.1 0).bind fun v1599 =>
  (Qext r1598.1 1).bind fun v1600 =>
  (Xcall Try.prog (Value.func (Fn.func 76) #[] #[]) #[x0, v1600, x3, x4, x5] r1598.2).bind fun r1601 =>
  (Qext r1601.1 0).bind fun v1602 =>
  (Qext r1601.1 1).bind fun _ =>
  (Xcall Try.prog (Value.func (Fn.func 76) #[] #[]) #[x0, v1599, v1602, x4, x5] r1601.2).bind fun r1604 =>
  (Qext r1604.1 0).bind fun _ =>
  (Qext r1604.1 1).bind fun v1606 =>
  some (v1606, r1604.2)
theorem s75eq (x0 x1 x2 x3 x4 x5 : Value) (w : World) : evK Try.prog 75 none (bodyOf Try.f75) none _ { tmps := (([x0, x1, x2, x3, x4, x5] : List Value) ++ List.replicate (41 - 6) undef).toArray, defers := [] } w (leaveK Try.prog Try.f75) = s75 x0 x1 x2 x3 x4 x5 w := by kernel_rfl
theorem c75 {x0 x1 x2 x3 x4 x5 : Value} {w : World} {r : Value × World} (h : s75 x0 x1 x2 x3 x4 x5 w = some r) : C Try.prog 75 #[x0, x1, x2, x3, x4, x5] w = some r :=
  C_ev follows_all drawLaw (by kernel_rfl) Try.func75 (by rfl) ((s75eq x0 x1 x2 x3 x4 x5 w).trans h)
theorem e75 {x0 x1 x2 x3 x4 x5 : Value} {w : World} {Q : Value × World → Prop} (h : Brings (s75 x0 x1 x2 x3 x4 x5 w) Q) : Brings (Xcall Try.prog (Value.func (Fn.func 75) #[] #[]) #[x0, x1, x2, x3, x4, x5] w) Q :=
  h.call (Xcall_fn Try.func75 (by decide +kernel) (by rfl) _ _ _ w) fun _ h => c75 h

/-! slices.order2CmpFunc[lychgate/table.row[lychgate/api.Tuple, int]] -/
noncomputable def s76 (x0 x1 x2 x3 x4 : Value) (w : World) : Option (Value × World) :=
  (QindexAddr Try.prog 62 x0 x2 w.drew).bind fun v1607 =>
  (Qload Try.prog 73 v1607 w.drew).bind fun v1608 =>
  (QindexAddr Try.prog 62 x0 x1 w.drew).bind fun v1609 =>
  (Qload Try.prog 73 v1609 w.drew).bind fun v1610 =>
  (Xcall Try.prog x4 #[v1608, v1610] w.drew).bind fun r1611 =>
  (Qbin Try.prog Go.BinOp.lss 3 r1611.1 (Go.Value.int Go.IntKind.i64 0)).bind fun v1612 =>
  chkK True (
    condK v1612 (
      (Qnil x3).bind fun v1613 =>
      (Qload Try.prog 3 v1613 r1611.2).bind fun v1614 =>
      (Qbin Try.prog Go.BinOp.add 3 v1614 (Go.Value.int Go.IntKind.i64 1)).bind fun v1615 =>
      (Qnil x3).bind fun v1616 =>
      (Xstore Try.prog 3 v1616 v1615 r1611.2).bind fun r1617 =>
      some ((Value.tuple #[x2, x1]), r1617.2)
    ) (
      some ((Value.tuple #[x1, x2]), r1611.2)
    )
  )
theorem s76eq (x0 x1 x2 x3 x4 : Value) (w : World) : evK Try.prog 76 none (bodyOf Try.f76) none _ { tmps := (([x0, x1, x2, x3, x4] : List Value) ++ List.replicate (32 - 5) undef).toArray, defers := [] } w (leaveK Try.prog Try.f76) = s76 x0 x1 x2 x3 x4 w := by kernel_rfl
theorem c76 {x0 x1 x2 x3 x4 : Value} {w : World} {r : Value × World} (h : s76 x0 x1 x2 x3 x4 w = some r) : C Try.prog 76 #[x0, x1, x2, x3, x4] w = some r :=
  C_ev follows_all drawLaw (by kernel_rfl) Try.func76 (by rfl) ((s76eq x0 x1 x2 x3 x4 w).trans h)
theorem e76 {x0 x1 x2 x3 x4 : Value} {w : World} {Q : Value × World → Prop} (h : Brings (s76 x0 x1 x2 x3 x4 w) Q) : Brings (Xcall Try.prog (Value.func (Fn.func 76) #[] #[]) #[x0, x1, x2, x3, x4] w) Q :=
  h.call (Xcall_fn Try.func76 (by decide +kernel) (by rfl) _ _ _ w) fun _ h => c76 h

end Go.Proofs.Ytcibkmahibnjeaa
