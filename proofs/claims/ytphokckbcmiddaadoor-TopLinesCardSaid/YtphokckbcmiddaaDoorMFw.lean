/- The functions of the program, by their texts. -/
import Derived.Test.YtphokckbcmiddaaDoorMFv
namespace Go.Proofs.YtphokckbcmiddaaDoor
open Go Go.Ev
open Go.Proofs
/-! lychgate/lychgatelaw13.live -/
noncomputable def s12 (w : World) : Option (Value × World) :=
  (XbuildSlice Tryd.prog 22 19 #[(0, (Value.int .u8 80)), (1, (Value.int .u8 79)), (2, (Value.int .u8 82)), (3, (Value.int .u8 84)), (4, (Value.int .u8 32)), (5, (Value.int .u8 49)), (6, (Value.int .u8 48)), (7, (Value.int .u8 44)), (8, (Value.int .u8 48)), (9, (Value.int .u8 44)), (10, (Value.int .u8 48)), (11, (Value.int .u8 44)), (12, (Value.int .u8 50)), (13, (Value.int .u8 44)), (14, (Value.int .u8 52)), (15, (Value.int .u8 44)), (16, (Value.int .u8 49)), (17, (Value.int .u8 13)), (18, (Value.int .u8 10))] w).bind fun r1 =>
  (Xconv Tryd.prog 22 22 r1.1 r1.2).bind fun r2 =>
  (Xcall Tryd.prog (Value.func (Fn.func 10) #[] #[]) #[r2.1, (Value.bool false)] r2.2).bind fun r3 =>
  (Qext r3.1 0).bind fun v4 =>
  (Qext r3.1 1).bind fun v5 =>
  (Xalloc Tryd.prog 27 r3.2).bind fun r6 =>
  (Xstore Tryd.prog 27 r6.1 v4 r6.2).bind fun r7 =>
  (guardQ v5 true (Qload Tryd.prog 27 r6.1 r7.2)).bind fun v8 =>
  (guardQ v5 true (Qbuild Tryd.prog 27 #[(0, (Value.int .i64 1)), (1, (Value.int .i64 5)), (2, (Value.int .i64 17)), (3, (Value.int .u32 167772162)), (4, (Value.int .u16 1025))] r7.2)).bind fun v9 =>
  (guardQ v5 true (Qbin Tryd.prog .eql 27 v8 v9)).bind fun v10 =>
  (Qpick v5 v10 (Value.bool false)).bind fun v11 =>
  (guardX v11 true r7.2 (Xcall Tryd.prog (Value.func (Fn.func 13) #[] #[]) #[(Value.int .i64 4), (Value.int .u32 0), (Value.int .u16 7)] r7.2)).bind fun r12 =>
  (guardX v11 true r12.2 (Xconv Tryd.prog 22 9 r12.1 r12.2)).bind fun r13 =>
  (guardQ v11 true (Qbin Tryd.prog .eql 9 r13.1 (Value.string { data := #[55] }))).bind fun v14 =>
  (Qpick v11 v14 (Value.bool false)).bind fun v15 =>
  some (v15, r13.2)
theorem s12eq (w : World) : evK Tryd.prog 12 none (bodyOf Tryd.f12) none _ { tmps := (([] : List Value) ++ List.replicate (20 - 0) undef).toArray, defers := [] } w (leaveK Tryd.prog Tryd.f12) = s12  w := by kernel_rfl
theorem c12 {w : World} {r : Value × World} (h : s12  w = some r) : C Tryd.prog 12 #[] w = some r :=
  C_ev follows_all drawLaw (by kernel_rfl) Tryd.func12 (by rfl) ((s12eq  w).trans h)
theorem e12 {w : World} {Q : Value × World → Prop} (h : Brings (s12  w) Q) : Brings (Xcall Tryd.prog (Value.func (Fn.func 12) #[] #[]) #[] w) Q :=
  h.call (Xcall_fn Tryd.func12 (by decide +kernel) (by rfl) _ _ _ w) fun _ h => c12 h

end Go.Proofs.YtphokckbcmiddaaDoor
