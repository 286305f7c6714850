/- The functions of the program, by their texts. -/
import Derived.Test.YtphokckbcmiddaaDoorMFu
/- The functions of the program, by their texts. -/
namespace Go.Proofs.YtphokckbcmiddaaDoor
open Go Go.Ev
open Go.Proofs
/-! internal/strconv.bool2[int] -/
noncomputable def s102 (x0 : Value) (w : World) : Option (Value × World) :=
  condK x0 (
    some ((Value.int .i64 1), w)
  ) (
    some ((Value.int .i64 0), w)
  )
theorem s102eq (x0 : Value) (w : World) : evK Tryd.prog 102 none (bodyOf Tryd.f102) none _ { tmps := (([x0] : List Value) ++ List.replicate (4 - 1) undef).toArray, defers := [] } w (leaveK Tryd.prog Tryd.f102) = s102 x0 w := by kernel_rfl
theorem c102 {x0 : Value} {w : World} {r : Value × World} (h : s102 x0 w = some r) : C Tryd.prog 102 #[x0] w = some r :=
  C_ev follows_all drawLaw (by kernel_rfl) Tryd.func102 (by rfl) ((s102eq x0 w).trans h)
theorem e102 {x0 : Value} {w : World} {Q : Value × World → Prop} (h : Brings (s102 x0 w) Q) : Brings (Xcall Tryd.prog (Value.func (Fn.func 102) #[] #[]) #[x0] w) Q :=
  h.call (Xcall_fn Tryd.func102 (by decide +kernel) (by rfl) _ _ _ w) fun _ h => c102 h

end Go.Proofs.YtphokckbcmiddaaDoor
