/-
  No cell of these rows narrows 'for every input' (looked for: loops, veiled, ifaces, maps, wideKeys, modest, calm, conditions, laid).
  DERIVED. THE GIVEN ROWS OF THIS SEAT. 9 by the template 'for every input the law returns true; each argument reads behind the call as it read before'; 0 by the template 'total and deterministic' (their statements: YtnnhfnjdcomjmaaTotals.lean).
  GIVEN WITH THE SEED: the statements are not yours to turn. If you find one false, say at which input.
  Laid BY PROGRAM, IN A SANDBOX (cutbox-rows.mjs): the forced cells as the released guide's own fill.sh prints them over the translation 8e4daa2edb656984… (all of the seat's roots in one cut). By AI agents, Wed Nov 11 2026. No macro, syntax, notation, axiom, sorry.
-/
import Derived.Test.YtnnhfnjdcomjmaaChecked
import GoSem.Claim
import GoSem.ClaimJoined
import GoSem.ClaimMapViews
import Derived.JoinedTies
import Derived.KernelRfl
namespace Go.Proofs.Ytnnhfnjdcomjmaa
/- THE CELL 'sum', in the pinned program and in every row, IS THE sha256 OF THE DUMP (.gsa) THAT YtnnhfnjdcomjmaaProg.lean LOADS. Nothing in Lean hashes anything: it is a label: what it is worth is what the hold of that sum in a sandbox is worth. -/
noncomputable def Try.pinned : Pinned := { name := "ytnnhfnjdcomjmaa", sum := "8e4daa2edb65698470838a54017a45d3908fcb2c4d57a25801ee0170b0a5d508", checked := Try.checked }
namespace Rows
def none {H : Type} : Left H := { results := [], args := [] }

/-- 'lychgatelaw12.ExpectRight': WHATEVER THE INPUT: true; the input reads as it did. -/
def expectRightSpec : ChangeSpec := { name := "expectRight", fn := fun _ => fun
  | [d] => { results := [.lit (.bool true)], args := [d] }
  | _ => none }
def expectRightRow : OpenClaim := { program := "ytnnhfnjdcomjmaa", sum := "8e4daa2edb65698470838a54017a45d3908fcb2c4d57a25801ee0170b0a5d508", func := "lychgate/lychgatelaw12.ExpectRight", spec := "expectRight", unfollowed := true, recurses := true, apart := false }
def ExpectRightSaid : Prop := expectRightRow.holds Try.pinned (OpenSpec.ofChange expectRightSpec)

/-- ITS FALSE NEIGHBOUR: 'it returns false'. Refute it at one input. -/
def expectRightWrong : ChangeSpec := { name := "expectRight", fn := fun _ => fun
  | [d] => { results := [.lit (.bool false)], args := [d] }
  | _ => none }
def ExpectRightWrongFalsely : Prop := expectRightRow.holds Try.pinned (OpenSpec.ofChange expectRightWrong)

/-- 'lychgatelaw12.ExpectMost': WHATEVER THE INPUT: true; the input reads as it did. -/
def expectMostSpec : ChangeSpec := { name := "expectMost", fn := fun _ => fun
  | [d1, d2] => { results := [.lit (.bool true)], args := [d1, d2] }
  | _ => none }
def expectMostRow : OpenClaim := { program := "ytnnhfnjdcomjmaa", sum := "8e4daa2edb65698470838a54017a45d3908fcb2c4d57a25801ee0170b0a5d508", func := "lychgate/lychgatelaw12.ExpectMost", spec := "expectMost", unfollowed := true, recurses := true, apart := false }
def ExpectMostSaid : Prop := expectMostRow.holds Try.pinned (OpenSpec.ofChange expectMostSpec)

/-- ITS FALSE NEIGHBOUR: 'it returns false'. Refute it at one input. -/
def expectMostWrong : ChangeSpec := { name := "expectMost", fn := fun _ => fun
  | [d1, d2] => { results := [.lit (.bool false)], args := [d1, d2] }
  | _ => none }
def ExpectMostWrongFalsely : Prop := expectMostRow.holds Try.pinned (OpenSpec.ofChange expectMostWrong)

/-- 'lychgatelaw12.ExpectPlays': WHATEVER THE INPUT: true; the input reads as it did. -/
def expectPlaysSpec : ChangeSpec := { name := "expectPlays", fn := fun _ => fun
  | [d1, d2] => { results := [.lit (.bool true)], args := [d1, d2] }
  | _ => none }
def expectPlaysRow : OpenClaim := { program := "ytnnhfnjdcomjmaa", sum := "8e4daa2edb65698470838a54017a45d3908fcb2c4d57a25801ee0170b0a5d508", func := "lychgate/lychgatelaw12.ExpectPlays", spec := "expectPlays", unfollowed := true, recurses := true, apart := false }
def ExpectPlaysSaid : Prop := expectPlaysRow.holds Try.pinned (OpenSpec.ofChange expectPlaysSpec)

/-- ITS FALSE NEIGHBOUR: 'it returns false'. Refute it at one input. -/
def expectPlaysWrong : ChangeSpec := { name := "expectPlays", fn := fun _ => fun
  | [d1, d2] => { results := [.lit (.bool false)], args := [d1, d2] }
  | _ => none }
def ExpectPlaysWrongFalsely : Prop := expectPlaysRow.holds Try.pinned (OpenSpec.ofChange expectPlaysWrong)

/-- 'lychgatelaw12.ExpectOnce': WHATEVER THE INPUT: true; the input reads as it did. -/
def expectOnceSpec : ChangeSpec := { name := "expectOnce", fn := fun _ => fun
  | [d1, d2] => { results := [.lit (.bool true)], args := [d1, d2] }
  | _ => none }
def expectOnceRow : OpenClaim := { program := "ytnnhfnjdcomjmaa", sum := "8e4daa2edb65698470838a54017a45d3908fcb2c4d57a25801ee0170b0a5d508", func := "lychgate/lychgatelaw12.ExpectOnce", spec := "expectOnce", unfollowed := true, recurses := true, apart := false }
def ExpectOnceSaid : Prop := expectOnceRow.holds Try.pinned (OpenSpec.ofChange expectOnceSpec)

/-- ITS FALSE NEIGHBOUR: 'it returns false'. Refute it at one input. -/
def expectOnceWrong : ChangeSpec := { name := "expectOnce", fn := fun _ => fun
  | [d1, d2] => { results := [.lit (.bool false)], args := [d1, d2] }
  | _ => none }
def ExpectOnceWrongFalsely : Prop := expectOnceRow.holds Try.pinned (OpenSpec.ofChange expectOnceWrong)

/-- 'lychgatelaw12.ExpectLimits': WHATEVER THE INPUT: true; the input reads as it did. -/
def expectLimitsSpec : ChangeSpec := { name := "expectLimits", fn := fun _ => fun
  | [d] => { results := [.lit (.bool true)], args := [d] }
  | _ => none }
def expectLimitsRow : OpenClaim := { program := "ytnnhfnjdcomjmaa", sum := "8e4daa2edb65698470838a54017a45d3908fcb2c4d57a25801ee0170b0a5d508", func := "lychgate/lychgatelaw12.ExpectLimits", spec := "expectLimits", unfollowed := true, recurses := true, apart := false }
def ExpectLimitsSaid : Prop := expectLimitsRow.holds Try.pinned (OpenSpec.ofChange expectLimitsSpec)

/-- ITS FALSE NEIGHBOUR: 'it returns false'. Refute it at one input. -/
def expectLimitsWrong : ChangeSpec := { name := "expectLimits", fn := fun _ => fun
  | [d] => { results := [.lit (.bool false)], args := [d] }
  | _ => none }
def ExpectLimitsWrongFalsely : Prop := expectLimitsRow.holds Try.pinned (OpenSpec.ofChange expectLimitsWrong)

/-- 'lychgatelaw12.ExpectEnds': WHATEVER THE INPUT: true; the input reads as it did. -/
def expectEndsSpec : ChangeSpec := { name := "expectEnds", fn := fun _ => fun
  | [d1, d2, d3] => { results := [.lit (.bool true)], args := [d1, d2, d3] }
  | _ => none }
def expectEndsRow : OpenClaim := { program := "ytnnhfnjdcomjmaa", sum := "8e4daa2edb65698470838a54017a45d3908fcb2c4d57a25801ee0170b0a5d508", func := "lychgate/lychgatelaw12.ExpectEnds", spec := "expectEnds", unfollowed := true, recurses := true, apart := false }
def ExpectEndsSaid : Prop := expectEndsRow.holds Try.pinned (OpenSpec.ofChange expectEndsSpec)

/-- ITS FALSE NEIGHBOUR: 'it returns false'. Refute it at one input. -/
def expectEndsWrong : ChangeSpec := { name := "expectEnds", fn := fun _ => fun
  | [d1, d2, d3] => { results := [.lit (.bool false)], args := [d1, d2, d3] }
  | _ => none }
def ExpectEndsWrongFalsely : Prop := expectEndsRow.holds Try.pinned (OpenSpec.ofChange expectEndsWrong)

/-- 'lychgatelaw12.ExpectForks': WHATEVER THE INPUT: true; the input reads as it did. -/
def expectForksSpec : ChangeSpec := { name := "expectForks", fn := fun _ => fun
  | [d1, d2] => { results := [.lit (.bool true)], args := [d1, d2] }
  | _ => none }
def expectForksRow : OpenClaim := { program := "ytnnhfnjdcomjmaa", sum := "8e4daa2edb65698470838a54017a45d3908fcb2c4d57a25801ee0170b0a5d508", func := "lychgate/lychgatelaw12.ExpectForks", spec := "expectForks", unfollowed := true, recurses := true, apart := false }
def ExpectForksSaid : Prop := expectForksRow.holds Try.pinned (OpenSpec.ofChange expectForksSpec)

/-- ITS FALSE NEIGHBOUR: 'it returns false'. Refute it at one input. -/
def expectForksWrong : ChangeSpec := { name := "expectForks", fn := fun _ => fun
  | [d1, d2] => { results := [.lit (.bool false)], args := [d1, d2] }
  | _ => none }
def ExpectForksWrongFalsely : Prop := expectForksRow.holds Try.pinned (OpenSpec.ofChange expectForksWrong)

/-- 'lychgatelaw12.ExpectNone': WHATEVER THE INPUT: true; the input reads as it did. -/
def expectNoneSpec : ChangeSpec := { name := "expectNone", fn := fun _ => fun
  | [d] => { results := [.lit (.bool true)], args := [d] }
  | _ => none }
def expectNoneRow : OpenClaim := { program := "ytnnhfnjdcomjmaa", sum := "8e4daa2edb65698470838a54017a45d3908fcb2c4d57a25801ee0170b0a5d508", func := "lychgate/lychgatelaw12.ExpectNone", spec := "expectNone", unfollowed := true, recurses := true, apart := false }
def ExpectNoneSaid : Prop := expectNoneRow.holds Try.pinned (OpenSpec.ofChange expectNoneSpec)

/-- ITS FALSE NEIGHBOUR: 'it returns false'. Refute it at one input. -/
def expectNoneWrong : ChangeSpec := { name := "expectNone", fn := fun _ => fun
  | [d] => { results := [.lit (.bool false)], args := [d] }
  | _ => none }
def ExpectNoneWrongFalsely : Prop := expectNoneRow.holds Try.pinned (OpenSpec.ofChange expectNoneWrong)

/-- 'lychgatetop.TopExpected': WHATEVER THE INPUT: true; the input reads as it did. -/
def topExpectedSpec : ChangeSpec := { name := "topExpected", fn := fun _ => fun
  | [d1, d2, d3] => { results := [.lit (.bool true)], args := [d1, d2, d3] }
  | _ => none }
def topExpectedRow : OpenClaim := { program := "ytnnhfnjdcomjmaa", sum := "8e4daa2edb65698470838a54017a45d3908fcb2c4d57a25801ee0170b0a5d508", func := "lychgate/lychgatetop.TopExpected", spec := "topExpected", unfollowed := true, recurses := true, apart := false }
def TopExpectedSaid : Prop := topExpectedRow.holds Try.pinned (OpenSpec.ofChange topExpectedSpec)

/-- ITS FALSE NEIGHBOUR: 'it returns false'. Refute it at one input. -/
def topExpectedWrong : ChangeSpec := { name := "topExpected", fn := fun _ => fun
  | [d1, d2, d3] => { results := [.lit (.bool false)], args := [d1, d2, d3] }
  | _ => none }
def TopExpectedWrongFalsely : Prop := topExpectedRow.holds Try.pinned (OpenSpec.ofChange topExpectedWrong)

/- THE SECOND FORM. 'bulk': how many values and letters a reading holds, each counted each time it is reached (what is shared counts as often as it is met; a slice's spare places count too). A statement '..UptoSaid' is the law's where the arguments, and the package variables that the reading takes, are together of bulk at most 1048576: NARROWER than '..Said'. Prove '..Said' where nothing that the law and all that it calls make is longer than what came in: it says more and counts as full. Else prove '..UptoSaid'. A law counts once. -/
mutual
def uptoBulk {H : Type} : DataW H → Nat
  | .lit (.string bytes) => bytes.length + 1
  | .lit _ => 1
  | .nil => 1
  | .ptr d => uptoBulk d + 1
  | .slice elems spare => uptoBulkAll elems + uptoBulkAll spare + 1
  | .agg parts => uptoBulkAll parts + 1
  | .iface _ d => uptoBulk d + 1
  | .map entries => uptoBulkEntries entries + 1
  | .held _ => 1
def uptoBulkAll {H : Type} : List (DataW H) → Nat
  | [] => 0
  | d :: r => uptoBulk d + uptoBulkAll r
def uptoBulkEntries {H : Type} : List (Lit × DataW H) → Nat
  | [] => 0
  | x :: r => uptoBulkEntry x + uptoBulkEntries r
def uptoBulkEntry {H : Type} : Lit × DataW H → Nat
  | (.string bytes, d) => bytes.length + uptoBulk d + 1
  | (_, d) => uptoBulk d + 1
 end
def uptoSmall : (H : Type) → List (DataW H) → Bool := fun _ ds => decide (uptoBulkAll ds ≤ 1048576)
def OpenSpec.upto (s : _root_.Go.ChangeSpec) : _root_.Go.OpenSpec := { _root_.Go.OpenSpec.ofChange s with cond := some uptoSmall }

/-- 'lychgatelaw12.ExpectRight', WHERE WHAT IT READS IS OF BULK AT MOST 1048576: true; the input reads as it did. -/
def expectRightUptoRow : OpenClaim := { program := "ytnnhfnjdcomjmaa", sum := "8e4daa2edb65698470838a54017a45d3908fcb2c4d57a25801ee0170b0a5d508", func := "lychgate/lychgatelaw12.ExpectRight", spec := "expectRight", unfollowed := true, recurses := true, apart := false, narrowed := true }
def ExpectRightUptoSaid : Prop := expectRightUptoRow.holds Try.pinned (OpenSpec.upto expectRightSpec)

/-- 'lychgatelaw12.ExpectMost', WHERE WHAT IT READS IS OF BULK AT MOST 1048576: true; the input reads as it did. -/
def expectMostUptoRow : OpenClaim := { program := "ytnnhfnjdcomjmaa", sum := "8e4daa2edb65698470838a54017a45d3908fcb2c4d57a25801ee0170b0a5d508", func := "lychgate/lychgatelaw12.ExpectMost", spec := "expectMost", unfollowed := true, recurses := true, apart := false, narrowed := true }
def ExpectMostUptoSaid : Prop := expectMostUptoRow.holds Try.pinned (OpenSpec.upto expectMostSpec)

/-- 'lychgatelaw12.ExpectPlays', WHERE WHAT IT READS IS OF BULK AT MOST 1048576: true; the input reads as it did. -/
def expectPlaysUptoRow : OpenClaim := { program := "ytnnhfnjdcomjmaa", sum := "8e4daa2edb65698470838a54017a45d3908fcb2c4d57a25801ee0170b0a5d508", func := "lychgate/lychgatelaw12.ExpectPlays", spec := "expectPlays", unfollowed := true, recurses := true, apart := false, narrowed := true }
def ExpectPlaysUptoSaid : Prop := expectPlaysUptoRow.holds Try.pinned (OpenSpec.upto expectPlaysSpec)

/-- 'lychgatelaw12.ExpectOnce', WHERE WHAT IT READS IS OF BULK AT MOST 1048576: true; the input reads as it did. -/
def expectOnceUptoRow : OpenClaim := { program := "ytnnhfnjdcomjmaa", sum := "8e4daa2edb65698470838a54017a45d3908fcb2c4d57a25801ee0170b0a5d508", func := "lychgate/lychgatelaw12.ExpectOnce", spec := "expectOnce", unfollowed := true, recurses := true, apart := false, narrowed := true }
def ExpectOnceUptoSaid : Prop := expectOnceUptoRow.holds Try.pinned (OpenSpec.upto expectOnceSpec)

/-- 'lychgatelaw12.ExpectLimits', WHERE WHAT IT READS IS OF BULK AT MOST 1048576: true; the input reads as it did. -/
def expectLimitsUptoRow : OpenClaim := { program := "ytnnhfnjdcomjmaa", sum := "8e4daa2edb65698470838a54017a45d3908fcb2c4d57a25801ee0170b0a5d508", func := "lychgate/lychgatelaw12.ExpectLimits", spec := "expectLimits", unfollowed := true, recurses := true, apart := false, narrowed := true }
def ExpectLimitsUptoSaid : Prop := expectLimitsUptoRow.holds Try.pinned (OpenSpec.upto expectLimitsSpec)

/-- 'lychgatelaw12.ExpectEnds', WHERE WHAT IT READS IS OF BULK AT MOST 1048576: true; the input reads as it did. -/
def expectEndsUptoRow : OpenClaim := { program := "ytnnhfnjdcomjmaa", sum := "8e4daa2edb65698470838a54017a45d3908fcb2c4d57a25801ee0170b0a5d508", func := "lychgate/lychgatelaw12.ExpectEnds", spec := "expectEnds", unfollowed := true, recurses := true, apart := false, narrowed := true }
def ExpectEndsUptoSaid : Prop := expectEndsUptoRow.holds Try.pinned (OpenSpec.upto expectEndsSpec)

/-- 'lychgatelaw12.ExpectForks', WHERE WHAT IT READS IS OF BULK AT MOST 1048576: true; the input reads as it did. -/
def expectForksUptoRow : OpenClaim := { program := "ytnnhfnjdcomjmaa", sum := "8e4daa2edb65698470838a54017a45d3908fcb2c4d57a25801ee0170b0a5d508", func := "lychgate/lychgatelaw12.ExpectForks", spec := "expectForks", unfollowed := true, recurses := true, apart := false, narrowed := true }
def ExpectForksUptoSaid : Prop := expectForksUptoRow.holds Try.pinned (OpenSpec.upto expectForksSpec)

/-- 'lychgatelaw12.ExpectNone', WHERE WHAT IT READS IS OF BULK AT MOST 1048576: true; the input reads as it did. -/
def expectNoneUptoRow : OpenClaim := { program := "ytnnhfnjdcomjmaa", sum := "8e4daa2edb65698470838a54017a45d3908fcb2c4d57a25801ee0170b0a5d508", func := "lychgate/lychgatelaw12.ExpectNone", spec := "expectNone", unfollowed := true, recurses := true, apart := false, narrowed := true }
def ExpectNoneUptoSaid : Prop := expectNoneUptoRow.holds Try.pinned (OpenSpec.upto expectNoneSpec)

/-- 'lychgatetop.TopExpected', WHERE WHAT IT READS IS OF BULK AT MOST 1048576: true; the input reads as it did. -/
def topExpectedUptoRow : OpenClaim := { program := "ytnnhfnjdcomjmaa", sum := "8e4daa2edb65698470838a54017a45d3908fcb2c4d57a25801ee0170b0a5d508", func := "lychgate/lychgatetop.TopExpected", spec := "topExpected", unfollowed := true, recurses := true, apart := false, narrowed := true }
def TopExpectedUptoSaid : Prop := topExpectedUptoRow.holds Try.pinned (OpenSpec.upto topExpectedSpec)

end Rows
end Go.Proofs.Ytnnhfnjdcomjmaa
