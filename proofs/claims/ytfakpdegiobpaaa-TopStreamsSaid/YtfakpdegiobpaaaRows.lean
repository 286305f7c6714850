/-
  No cell of these rows narrows 'for every input' (looked for: loops, veiled, ifaces, maps, wideKeys, modest, calm, conditions, laid).
  DERIVED. THE GIVEN ROWS OF THIS SEAT. 9 by the template 'for every input the law returns true; each argument reads behind the call as it read before'; 0 by the template 'total and deterministic' (their statements: YtfakpdegiobpaaaTotals.lean).
  GIVEN WITH THE SEED: the statements are not yours to turn. If you find one false, say at which input.
  Laid BY PROGRAM, IN A SANDBOX (cutbox-rows.mjs): the forced cells as the released guide's own fill.sh prints them over the translation f92495bb524e0151… (all of the seat's roots in one cut). By AI agents, Wed Nov 11 2026. No macro, syntax, notation, axiom, sorry.
-/
import Derived.Test.YtfakpdegiobpaaaChecked
import GoSem.Claim
import GoSem.ClaimJoined
import GoSem.ClaimMapViews
import Derived.JoinedTies
import Derived.KernelRfl
namespace Go.Proofs.Ytfakpdegiobpaaa
/- THE CELL 'sum', in the pinned program and in every row, IS THE sha256 OF THE DUMP (.gsa) THAT YtfakpdegiobpaaaProg.lean LOADS. Nothing in Lean hashes anything: it is a label: what it is worth is what the hold of that sum in a sandbox is worth. -/
noncomputable def Try.pinned : Pinned := { name := "ytfakpdegiobpaaa", sum := "f92495bb524e0151bae6d551f25403642df89bac420c8d1255d00f06816f217f", checked := Try.checked }
namespace Rows
def none {H : Type} : Left H := { results := [], args := [] }

/-- 'lychgatelaw11.SeqadjBack': WHATEVER THE INPUT: true; the input reads as it did. -/
def seqadjBackSpec : ChangeSpec := { name := "seqadjBack", fn := fun _ => fun
  | [d1, d2] => { results := [.lit (.bool true)], args := [d1, d2] }
  | _ => none }
def seqadjBackRow : OpenClaim := { program := "ytfakpdegiobpaaa", sum := "f92495bb524e0151bae6d551f25403642df89bac420c8d1255d00f06816f217f", func := "lychgate/lychgatelaw11.SeqadjBack", spec := "seqadjBack", unfollowed := true, recurses := true, apart := false }
def SeqadjBackSaid : Prop := seqadjBackRow.holds Try.pinned (OpenSpec.ofChange seqadjBackSpec)

/-- ITS FALSE NEIGHBOUR: 'it returns false'. Refute it at one input. -/
def seqadjBackWrong : ChangeSpec := { name := "seqadjBack", fn := fun _ => fun
  | [d1, d2] => { results := [.lit (.bool false)], args := [d1, d2] }
  | _ => none }
def SeqadjBackWrongFalsely : Prop := seqadjBackRow.holds Try.pinned (OpenSpec.ofChange seqadjBackWrong)

/-- 'lychgatelaw11.SeqadjOrder': WHATEVER THE INPUT: true; the input reads as it did. -/
def seqadjOrderSpec : ChangeSpec := { name := "seqadjOrder", fn := fun _ => fun
  | [d1, d2, d3] => { results := [.lit (.bool true)], args := [d1, d2, d3] }
  | _ => none }
def seqadjOrderRow : OpenClaim := { program := "ytfakpdegiobpaaa", sum := "f92495bb524e0151bae6d551f25403642df89bac420c8d1255d00f06816f217f", func := "lychgate/lychgatelaw11.SeqadjOrder", spec := "seqadjOrder", unfollowed := true, recurses := true, apart := false }
def SeqadjOrderSaid : Prop := seqadjOrderRow.holds Try.pinned (OpenSpec.ofChange seqadjOrderSpec)

/-- ITS FALSE NEIGHBOUR: 'it returns false'. Refute it at one input. -/
def seqadjOrderWrong : ChangeSpec := { name := "seqadjOrder", fn := fun _ => fun
  | [d1, d2, d3] => { results := [.lit (.bool false)], args := [d1, d2, d3] }
  | _ => none }
def SeqadjOrderWrongFalsely : Prop := seqadjOrderRow.holds Try.pinned (OpenSpec.ofChange seqadjOrderWrong)

/-- 'lychgatelaw11.SeqadjSums': WHATEVER THE INPUT: true; the input reads as it did. -/
def seqadjSumsSpec : ChangeSpec := { name := "seqadjSums", fn := fun _ => fun
  | [d1, d2, d3] => { results := [.lit (.bool true)], args := [d1, d2, d3] }
  | _ => none }
def seqadjSumsRow : OpenClaim := { program := "ytfakpdegiobpaaa", sum := "f92495bb524e0151bae6d551f25403642df89bac420c8d1255d00f06816f217f", func := "lychgate/lychgatelaw11.SeqadjSums", spec := "seqadjSums", unfollowed := true, recurses := true, apart := false }
def SeqadjSumsSaid : Prop := seqadjSumsRow.holds Try.pinned (OpenSpec.ofChange seqadjSumsSpec)

/-- ITS FALSE NEIGHBOUR: 'it returns false'. Refute it at one input. -/
def seqadjSumsWrong : ChangeSpec := { name := "seqadjSums", fn := fun _ => fun
  | [d1, d2, d3] => { results := [.lit (.bool false)], args := [d1, d2, d3] }
  | _ => none }
def SeqadjSumsWrongFalsely : Prop := seqadjSumsRow.holds Try.pinned (OpenSpec.ofChange seqadjSumsWrong)

/-- 'lychgatelaw11.SeqadjInside': WHATEVER THE INPUT: true; the input reads as it did. -/
def seqadjInsideSpec : ChangeSpec := { name := "seqadjInside", fn := fun _ => fun
  | [d1, d2] => { results := [.lit (.bool true)], args := [d1, d2] }
  | _ => none }
def seqadjInsideRow : OpenClaim := { program := "ytfakpdegiobpaaa", sum := "f92495bb524e0151bae6d551f25403642df89bac420c8d1255d00f06816f217f", func := "lychgate/lychgatelaw11.SeqadjInside", spec := "seqadjInside", unfollowed := true, recurses := true, apart := false }
def SeqadjInsideSaid : Prop := seqadjInsideRow.holds Try.pinned (OpenSpec.ofChange seqadjInsideSpec)

/-- ITS FALSE NEIGHBOUR: 'it returns false'. Refute it at one input. -/
def seqadjInsideWrong : ChangeSpec := { name := "seqadjInside", fn := fun _ => fun
  | [d1, d2] => { results := [.lit (.bool false)], args := [d1, d2] }
  | _ => none }
def SeqadjInsideWrongFalsely : Prop := seqadjInsideRow.holds Try.pinned (OpenSpec.ofChange seqadjInsideWrong)

/-- 'lychgatelaw11.SeqadjPlays': WHATEVER THE INPUT: true; the input reads as it did. -/
def seqadjPlaysSpec : ChangeSpec := { name := "seqadjPlays", fn := fun _ => fun
  | [d1, d2, d3] => { results := [.lit (.bool true)], args := [d1, d2, d3] }
  | _ => none }
def seqadjPlaysRow : OpenClaim := { program := "ytfakpdegiobpaaa", sum := "f92495bb524e0151bae6d551f25403642df89bac420c8d1255d00f06816f217f", func := "lychgate/lychgatelaw11.SeqadjPlays", spec := "seqadjPlays", unfollowed := true, recurses := true, apart := false }
def SeqadjPlaysSaid : Prop := seqadjPlaysRow.holds Try.pinned (OpenSpec.ofChange seqadjPlaysSpec)

/-- ITS FALSE NEIGHBOUR: 'it returns false'. Refute it at one input. -/
def seqadjPlaysWrong : ChangeSpec := { name := "seqadjPlays", fn := fun _ => fun
  | [d1, d2, d3] => { results := [.lit (.bool false)], args := [d1, d2, d3] }
  | _ => none }
def SeqadjPlaysWrongFalsely : Prop := seqadjPlaysRow.holds Try.pinned (OpenSpec.ofChange seqadjPlaysWrong)

/-- 'lychgatelaw11.SeqadjFinds': WHATEVER THE INPUT: true; the input reads as it did. -/
def seqadjFindsSpec : ChangeSpec := { name := "seqadjFinds", fn := fun _ => fun
  | [d] => { results := [.lit (.bool true)], args := [d] }
  | _ => none }
def seqadjFindsRow : OpenClaim := { program := "ytfakpdegiobpaaa", sum := "f92495bb524e0151bae6d551f25403642df89bac420c8d1255d00f06816f217f", func := "lychgate/lychgatelaw11.SeqadjFinds", spec := "seqadjFinds", unfollowed := true, recurses := true, apart := false }
def SeqadjFindsSaid : Prop := seqadjFindsRow.holds Try.pinned (OpenSpec.ofChange seqadjFindsSpec)

/-- ITS FALSE NEIGHBOUR: 'it returns false'. Refute it at one input. -/
def seqadjFindsWrong : ChangeSpec := { name := "seqadjFinds", fn := fun _ => fun
  | [d] => { results := [.lit (.bool false)], args := [d] }
  | _ => none }
def SeqadjFindsWrongFalsely : Prop := seqadjFindsRow.holds Try.pinned (OpenSpec.ofChange seqadjFindsWrong)

/-- 'lychgatelaw11.SeqadjEmpty': WHATEVER THE INPUT: true; the input reads as it did. -/
def seqadjEmptySpec : ChangeSpec := { name := "seqadjEmpty", fn := fun _ => fun
  | [d1, d2] => { results := [.lit (.bool true)], args := [d1, d2] }
  | _ => none }
def seqadjEmptyRow : OpenClaim := { program := "ytfakpdegiobpaaa", sum := "f92495bb524e0151bae6d551f25403642df89bac420c8d1255d00f06816f217f", func := "lychgate/lychgatelaw11.SeqadjEmpty", spec := "seqadjEmpty", unfollowed := true, recurses := true, apart := false }
def SeqadjEmptySaid : Prop := seqadjEmptyRow.holds Try.pinned (OpenSpec.ofChange seqadjEmptySpec)

/-- ITS FALSE NEIGHBOUR: 'it returns false'. Refute it at one input. -/
def seqadjEmptyWrong : ChangeSpec := { name := "seqadjEmpty", fn := fun _ => fun
  | [d1, d2] => { results := [.lit (.bool false)], args := [d1, d2] }
  | _ => none }
def SeqadjEmptyWrongFalsely : Prop := seqadjEmptyRow.holds Try.pinned (OpenSpec.ofChange seqadjEmptyWrong)

/-- 'lychgatelaw11.SeqadjForks': WHATEVER THE INPUT: true; the input reads as it did. -/
def seqadjForksSpec : ChangeSpec := { name := "seqadjForks", fn := fun _ => fun
  | [d1, d2, d3] => { results := [.lit (.bool true)], args := [d1, d2, d3] }
  | _ => none }
def seqadjForksRow : OpenClaim := { program := "ytfakpdegiobpaaa", sum := "f92495bb524e0151bae6d551f25403642df89bac420c8d1255d00f06816f217f", func := "lychgate/lychgatelaw11.SeqadjForks", spec := "seqadjForks", unfollowed := true, recurses := true, apart := false }
def SeqadjForksSaid : Prop := seqadjForksRow.holds Try.pinned (OpenSpec.ofChange seqadjForksSpec)

/-- ITS FALSE NEIGHBOUR: 'it returns false'. Refute it at one input. -/
def seqadjForksWrong : ChangeSpec := { name := "seqadjForks", fn := fun _ => fun
  | [d1, d2, d3] => { results := [.lit (.bool false)], args := [d1, d2, d3] }
  | _ => none }
def SeqadjForksWrongFalsely : Prop := seqadjForksRow.holds Try.pinned (OpenSpec.ofChange seqadjForksWrong)

/-- 'lychgatetop.TopStreams': WHATEVER THE INPUT: true; the input reads as it did. -/
def topStreamsSpec : ChangeSpec := { name := "topStreams", fn := fun _ => fun
  | [d] => { results := [.lit (.bool true)], args := [d] }
  | _ => none }
def topStreamsRow : OpenClaim := { program := "ytfakpdegiobpaaa", sum := "f92495bb524e0151bae6d551f25403642df89bac420c8d1255d00f06816f217f", func := "lychgate/lychgatetop.TopStreams", spec := "topStreams", unfollowed := true, recurses := true, apart := false }
def TopStreamsSaid : Prop := topStreamsRow.holds Try.pinned (OpenSpec.ofChange topStreamsSpec)

/-- ITS FALSE NEIGHBOUR: 'it returns false'. Refute it at one input. -/
def topStreamsWrong : ChangeSpec := { name := "topStreams", fn := fun _ => fun
  | [d] => { results := [.lit (.bool false)], args := [d] }
  | _ => none }
def TopStreamsWrongFalsely : Prop := topStreamsRow.holds Try.pinned (OpenSpec.ofChange topStreamsWrong)

/- THE SECOND FORM. 'bulk': how many values and letters a reading holds, each counted each time it is reached (what is shared counts as often as it is met; a slice's spare places count too). A statement '..UptoSaid' is the law's where the arguments, and the package variables that the reading takes, are together of bulk at most 1048576: NARROWER than '..Said'. Prove '..Said' where nothing that the law and all that it calls make is longer than what came in: it says more and counts as full. Else prove '..UptoSaid'. A law counts once. -/
mutual
def uptoBulk {H : Type} : DataW H → Nat
  | .lit (.string bytes) => bytes.length + 1
  | .lit _ => 1
  | .nil => 1
  | .ptr d => uptoBulk d + 1
  | .slice elems spare => uptoBulkAll elems + uptoBulkAll spare + 1
  | .agg parts => uptoBulkAll parts + 1
  | .iface _ d => uptoBulk d + 1
  | .map entries => uptoBulkEntries entries + 1
  | .held _ => 1
def uptoBulkAll {H : Type} : List (DataW H) → Nat
  | [] => 0
  | d :: r => uptoBulk d + uptoBulkAll r
def uptoBulkEntries {H : Type} : List (Lit × DataW H) → Nat
  | [] => 0
  | x :: r => uptoBulkEntry x + uptoBulkEntries r
def uptoBulkEntry {H : Type} : Lit × DataW H → Nat
  | (.string bytes, d) => bytes.length + uptoBulk d + 1
  | (_, d) => uptoBulk d + 1
 end
def uptoSmall : (H : Type) → List (DataW H) → Bool := fun _ ds => decide (uptoBulkAll ds ≤ 1048576)
def OpenSpec.upto (s : _root_.Go.ChangeSpec) : _root_.Go.OpenSpec := { _root_.Go.OpenSpec.ofChange s with cond := some uptoSmall }

/-- 'lychgatelaw11.SeqadjBack', WHERE WHAT IT READS IS OF BULK AT MOST 1048576: true; the input reads as it did. -/
def seqadjBackUptoRow : OpenClaim := { program := "ytfakpdegiobpaaa", sum := "f92495bb524e0151bae6d551f25403642df89bac420c8d1255d00f06816f217f", func := "lychgate/lychgatelaw11.SeqadjBack", spec := "seqadjBack", unfollowed := true, recurses := true, apart := false, narrowed := true }
def SeqadjBackUptoSaid : Prop := seqadjBackUptoRow.holds Try.pinned (OpenSpec.upto seqadjBackSpec)

/-- 'lychgatelaw11.SeqadjOrder', WHERE WHAT IT READS IS OF BULK AT MOST 1048576: true; the input reads as it did. -/
def seqadjOrderUptoRow : OpenClaim := { program := "ytfakpdegiobpaaa", sum := "f92495bb524e0151bae6d551f25403642df89bac420c8d1255d00f06816f217f", func := "lychgate/lychgatelaw11.SeqadjOrder", spec := "seqadjOrder", unfollowed := true, recurses := true, apart := false, narrowed := true }
def SeqadjOrderUptoSaid : Prop := seqadjOrderUptoRow.holds Try.pinned (OpenSpec.upto seqadjOrderSpec)

/-- 'lychgatelaw11.SeqadjSums', WHERE WHAT IT READS IS OF BULK AT MOST 1048576: true; the input reads as it did. -/
def seqadjSumsUptoRow : OpenClaim := { program := "ytfakpdegiobpaaa", sum := "f92495bb524e0151bae6d551f25403642df89bac420c8d1255d00f06816f217f", func := "lychgate/lychgatelaw11.SeqadjSums", spec := "seqadjSums", unfollowed := true, recurses := true, apart := false, narrowed := true }
def SeqadjSumsUptoSaid : Prop := seqadjSumsUptoRow.holds Try.pinned (OpenSpec.upto seqadjSumsSpec)

/-- 'lychgatelaw11.SeqadjInside', WHERE WHAT IT READS IS OF BULK AT MOST 1048576: true; the input reads as it did. -/
def seqadjInsideUptoRow : OpenClaim := { program := "ytfakpdegiobpaaa", sum := "f92495bb524e0151bae6d551f25403642df89bac420c8d1255d00f06816f217f", func := "lychgate/lychgatelaw11.SeqadjInside", spec := "seqadjInside", unfollowed := true, recurses := true, apart := false, narrowed := true }
def SeqadjInsideUptoSaid : Prop := seqadjInsideUptoRow.holds Try.pinned (OpenSpec.upto seqadjInsideSpec)

/-- 'lychgatelaw11.SeqadjPlays', WHERE WHAT IT READS IS OF BULK AT MOST 1048576: true; the input reads as it did. -/
def seqadjPlaysUptoRow : OpenClaim := { program := "ytfakpdegiobpaaa", sum := "f92495bb524e0151bae6d551f25403642df89bac420c8d1255d00f06816f217f", func := "lychgate/lychgatelaw11.SeqadjPlays", spec := "seqadjPlays", unfollowed := true, recurses := true, apart := false, narrowed := true }
def SeqadjPlaysUptoSaid : Prop := seqadjPlaysUptoRow.holds Try.pinned (OpenSpec.upto seqadjPlaysSpec)

/-- 'lychgatelaw11.SeqadjFinds', WHERE WHAT IT READS IS OF BULK AT MOST 1048576: true; the input reads as it did. -/
def seqadjFindsUptoRow : OpenClaim := { program := "ytfakpdegiobpaaa", sum := "f92495bb524e0151bae6d551f25403642df89bac420c8d1255d00f06816f217f", func := "lychgate/lychgatelaw11.SeqadjFinds", spec := "seqadjFinds", unfollowed := true, recurses := true, apart := false, narrowed := true }
def SeqadjFindsUptoSaid : Prop := seqadjFindsUptoRow.holds Try.pinned (OpenSpec.upto seqadjFindsSpec)

/-- 'lychgatelaw11.SeqadjEmpty', WHERE WHAT IT READS IS OF BULK AT MOST 1048576: true; the input reads as it did. -/
def seqadjEmptyUptoRow : OpenClaim := { program := "ytfakpdegiobpaaa", sum := "f92495bb524e0151bae6d551f25403642df89bac420c8d1255d00f06816f217f", func := "lychgate/lychgatelaw11.SeqadjEmpty", spec := "seqadjEmpty", unfollowed := true, recurses := true, apart := false, narrowed := true }
def SeqadjEmptyUptoSaid : Prop := seqadjEmptyUptoRow.holds Try.pinned (OpenSpec.upto seqadjEmptySpec)

/-- 'lychgatelaw11.SeqadjForks', WHERE WHAT IT READS IS OF BULK AT MOST 1048576: true; the input reads as it did. -/
def seqadjForksUptoRow : OpenClaim := { program := "ytfakpdegiobpaaa", sum := "f92495bb524e0151bae6d551f25403642df89bac420c8d1255d00f06816f217f", func := "lychgate/lychgatelaw11.SeqadjForks", spec := "seqadjForks", unfollowed := true, recurses := true, apart := false, narrowed := true }
def SeqadjForksUptoSaid : Prop := seqadjForksUptoRow.holds Try.pinned (OpenSpec.upto seqadjForksSpec)

/-- 'lychgatetop.TopStreams', WHERE WHAT IT READS IS OF BULK AT MOST 1048576: true; the input reads as it did. -/
def topStreamsUptoRow : OpenClaim := { program := "ytfakpdegiobpaaa", sum := "f92495bb524e0151bae6d551f25403642df89bac420c8d1255d00f06816f217f", func := "lychgate/lychgatetop.TopStreams", spec := "topStreams", unfollowed := true, recurses := true, apart := false, narrowed := true }
def TopStreamsUptoSaid : Prop := topStreamsUptoRow.holds Try.pinned (OpenSpec.upto topStreamsSpec)

end Rows
end Go.Proofs.Ytfakpdegiobpaaa
