/-
  No cell of these rows narrows 'for every input' (looked for: loops, veiled, ifaces, maps, wideKeys, modest, calm, conditions, laid).
  DERIVED. THE GIVEN ROWS OF THIS SEAT. 9 by the template 'for every input the law returns true; each argument reads behind the call as it read before'; 0 by the template 'total and deterministic' (their statements: YtmhpecfgipmgaaaTotals.lean).
  GIVEN WITH THE SEED: the statements are not yours to turn. If you find one false, say at which input.
  Laid BY PROGRAM, IN A SANDBOX (cutbox-rows.mjs): the forced cells as the released guide's own fill.sh prints them over the translation aae00cdf9975cca5… (all of the seat's roots in one cut). By AI agents, Wed Nov 11 2026. No macro, syntax, notation, axiom, sorry.
-/
import Derived.Test.YtmhpecfgipmgaaaChecked
import GoSem.Claim
import GoSem.ClaimJoined
import GoSem.ClaimMapViews
import Derived.JoinedTies
import Derived.KernelRfl
namespace Go.Proofs.Ytmhpecfgipmgaaa
/- THE CELL 'sum', in the pinned program and in every row, IS THE sha256 OF THE DUMP (.gsa) THAT YtmhpecfgipmgaaaProg.lean LOADS. Nothing in Lean hashes anything: it is a label: what it is worth is what the hold of that sum in a sandbox is worth. -/
noncomputable def Try.pinned : Pinned := { name := "ytmhpecfgipmgaaa", sum := "aae00cdf9975cca57466e4b0a76651408bab7cadfe64a375582d0df3e9584cc7", checked := Try.checked }
namespace Rows
def none {H : Type} : Left H := { results := [], args := [] }

/-- 'lychgatelaw07.TrackNext': WHATEVER THE INPUT: true; the input reads as it did. -/
def trackNextSpec : ChangeSpec := { name := "trackNext", fn := fun _ => fun
  | [d1, d2, d3] => { results := [.lit (.bool true)], args := [d1, d2, d3] }
  | _ => none }
def trackNextRow : OpenClaim := { program := "ytmhpecfgipmgaaa", sum := "aae00cdf9975cca57466e4b0a76651408bab7cadfe64a375582d0df3e9584cc7", func := "lychgate/lychgatelaw07.TrackNext", spec := "trackNext", unfollowed := true, recurses := true, plainKeys := false, apart := false }
def TrackNextSaid : Prop := trackNextRow.holds Try.pinned (OpenSpec.ofChange trackNextSpec)

/-- ITS FALSE NEIGHBOUR: 'it returns false'. Refute it at one input. -/
def trackNextWrong : ChangeSpec := { name := "trackNext", fn := fun _ => fun
  | [d1, d2, d3] => { results := [.lit (.bool false)], args := [d1, d2, d3] }
  | _ => none }
def TrackNextWrongFalsely : Prop := trackNextRow.holds Try.pinned (OpenSpec.ofChange trackNextWrong)

/-- 'lychgatelaw07.TrackClosed': WHATEVER THE INPUT: true; the input reads as it did. -/
def trackClosedSpec : ChangeSpec := { name := "trackClosed", fn := fun _ => fun
  | [d1, d2] => { results := [.lit (.bool true)], args := [d1, d2] }
  | _ => none }
def trackClosedRow : OpenClaim := { program := "ytmhpecfgipmgaaa", sum := "aae00cdf9975cca57466e4b0a76651408bab7cadfe64a375582d0df3e9584cc7", func := "lychgate/lychgatelaw07.TrackClosed", spec := "trackClosed", unfollowed := true, recurses := true, plainKeys := false, apart := false }
def TrackClosedSaid : Prop := trackClosedRow.holds Try.pinned (OpenSpec.ofChange trackClosedSpec)

/-- ITS FALSE NEIGHBOUR: 'it returns false'. Refute it at one input. -/
def trackClosedWrong : ChangeSpec := { name := "trackClosed", fn := fun _ => fun
  | [d1, d2] => { results := [.lit (.bool false)], args := [d1, d2] }
  | _ => none }
def TrackClosedWrongFalsely : Prop := trackClosedRow.holds Try.pinned (OpenSpec.ofChange trackClosedWrong)

/-- 'lychgatelaw07.TrackFirst': WHATEVER THE INPUT: true; the input reads as it did. -/
def trackFirstSpec : ChangeSpec := { name := "trackFirst", fn := fun _ => fun
  | [d] => { results := [.lit (.bool true)], args := [d] }
  | _ => none }
def trackFirstRow : OpenClaim := { program := "ytmhpecfgipmgaaa", sum := "aae00cdf9975cca57466e4b0a76651408bab7cadfe64a375582d0df3e9584cc7", func := "lychgate/lychgatelaw07.TrackFirst", spec := "trackFirst", unfollowed := true, recurses := true, plainKeys := false, apart := false }
def TrackFirstSaid : Prop := trackFirstRow.holds Try.pinned (OpenSpec.ofChange trackFirstSpec)

/-- ITS FALSE NEIGHBOUR: 'it returns false'. Refute it at one input. -/
def trackFirstWrong : ChangeSpec := { name := "trackFirst", fn := fun _ => fun
  | [d] => { results := [.lit (.bool false)], args := [d] }
  | _ => none }
def TrackFirstWrongFalsely : Prop := trackFirstRow.holds Try.pinned (OpenSpec.ofChange trackFirstWrong)

/-- 'lychgatelaw07.TrackResets': WHATEVER THE INPUT: true; the input reads as it did. -/
def trackResetsSpec : ChangeSpec := { name := "trackResets", fn := fun _ => fun
  | [d1, d2, d3] => { results := [.lit (.bool true)], args := [d1, d2, d3] }
  | _ => none }
def trackResetsRow : OpenClaim := { program := "ytmhpecfgipmgaaa", sum := "aae00cdf9975cca57466e4b0a76651408bab7cadfe64a375582d0df3e9584cc7", func := "lychgate/lychgatelaw07.TrackResets", spec := "trackResets", unfollowed := true, recurses := true, plainKeys := false, apart := false }
def TrackResetsSaid : Prop := trackResetsRow.holds Try.pinned (OpenSpec.ofChange trackResetsSpec)

/-- ITS FALSE NEIGHBOUR: 'it returns false'. Refute it at one input. -/
def trackResetsWrong : ChangeSpec := { name := "trackResets", fn := fun _ => fun
  | [d1, d2, d3] => { results := [.lit (.bool false)], args := [d1, d2, d3] }
  | _ => none }
def TrackResetsWrongFalsely : Prop := trackResetsRow.holds Try.pinned (OpenSpec.ofChange trackResetsWrong)

/-- 'lychgatelaw07.TrackOpen': WHATEVER THE INPUT: true; the input reads as it did. -/
def trackOpenSpec : ChangeSpec := { name := "trackOpen", fn := fun _ => fun
  | [d1, d2] => { results := [.lit (.bool true)], args := [d1, d2] }
  | _ => none }
def trackOpenRow : OpenClaim := { program := "ytmhpecfgipmgaaa", sum := "aae00cdf9975cca57466e4b0a76651408bab7cadfe64a375582d0df3e9584cc7", func := "lychgate/lychgatelaw07.TrackOpen", spec := "trackOpen", unfollowed := true, recurses := true, plainKeys := false, apart := false }
def TrackOpenSaid : Prop := trackOpenRow.holds Try.pinned (OpenSpec.ofChange trackOpenSpec)

/-- ITS FALSE NEIGHBOUR: 'it returns false'. Refute it at one input. -/
def trackOpenWrong : ChangeSpec := { name := "trackOpen", fn := fun _ => fun
  | [d1, d2] => { results := [.lit (.bool false)], args := [d1, d2] }
  | _ => none }
def TrackOpenWrongFalsely : Prop := trackOpenRow.holds Try.pinned (OpenSpec.ofChange trackOpenWrong)

/-- 'lychgatelaw07.TrackPlain': WHATEVER THE INPUT: true; the input reads as it did. -/
def trackPlainSpec : ChangeSpec := { name := "trackPlain", fn := fun _ => fun
  | [d1, d2, d3] => { results := [.lit (.bool true)], args := [d1, d2, d3] }
  | _ => none }
def trackPlainRow : OpenClaim := { program := "ytmhpecfgipmgaaa", sum := "aae00cdf9975cca57466e4b0a76651408bab7cadfe64a375582d0df3e9584cc7", func := "lychgate/lychgatelaw07.TrackPlain", spec := "trackPlain", unfollowed := true, recurses := true, plainKeys := false, apart := false }
def TrackPlainSaid : Prop := trackPlainRow.holds Try.pinned (OpenSpec.ofChange trackPlainSpec)

/-- ITS FALSE NEIGHBOUR: 'it returns false'. Refute it at one input. -/
def trackPlainWrong : ChangeSpec := { name := "trackPlain", fn := fun _ => fun
  | [d1, d2, d3] => { results := [.lit (.bool false)], args := [d1, d2, d3] }
  | _ => none }
def TrackPlainWrongFalsely : Prop := trackPlainRow.holds Try.pinned (OpenSpec.ofChange trackPlainWrong)

/-- 'lychgatelaw07.TrackLives': WHATEVER THE INPUT: true; the input reads as it did. -/
def trackLivesSpec : ChangeSpec := { name := "trackLives", fn := fun _ => fun
  | [d1, d2] => { results := [.lit (.bool true)], args := [d1, d2] }
  | _ => none }
def trackLivesRow : OpenClaim := { program := "ytmhpecfgipmgaaa", sum := "aae00cdf9975cca57466e4b0a76651408bab7cadfe64a375582d0df3e9584cc7", func := "lychgate/lychgatelaw07.TrackLives", spec := "trackLives", unfollowed := true, recurses := true, plainKeys := false, apart := false }
def TrackLivesSaid : Prop := trackLivesRow.holds Try.pinned (OpenSpec.ofChange trackLivesSpec)

/-- ITS FALSE NEIGHBOUR: 'it returns false'. Refute it at one input. -/
def trackLivesWrong : ChangeSpec := { name := "trackLives", fn := fun _ => fun
  | [d1, d2] => { results := [.lit (.bool false)], args := [d1, d2] }
  | _ => none }
def TrackLivesWrongFalsely : Prop := trackLivesRow.holds Try.pinned (OpenSpec.ofChange trackLivesWrong)

/-- 'lychgatelaw07.TrackOther': WHATEVER THE INPUT: true; the input reads as it did. -/
def trackOtherSpec : ChangeSpec := { name := "trackOther", fn := fun _ => fun
  | [d1, d2, d3] => { results := [.lit (.bool true)], args := [d1, d2, d3] }
  | _ => none }
def trackOtherRow : OpenClaim := { program := "ytmhpecfgipmgaaa", sum := "aae00cdf9975cca57466e4b0a76651408bab7cadfe64a375582d0df3e9584cc7", func := "lychgate/lychgatelaw07.TrackOther", spec := "trackOther", unfollowed := true, recurses := true, plainKeys := false, apart := false }
def TrackOtherSaid : Prop := trackOtherRow.holds Try.pinned (OpenSpec.ofChange trackOtherSpec)

/-- ITS FALSE NEIGHBOUR: 'it returns false'. Refute it at one input. -/
def trackOtherWrong : ChangeSpec := { name := "trackOther", fn := fun _ => fun
  | [d1, d2, d3] => { results := [.lit (.bool false)], args := [d1, d2, d3] }
  | _ => none }
def TrackOtherWrongFalsely : Prop := trackOtherRow.holds Try.pinned (OpenSpec.ofChange trackOtherWrong)

/-- 'lychgatetop.TopHandshake': WHATEVER THE INPUT: true; the input reads as it did. -/
def topHandshakeSpec : ChangeSpec := { name := "topHandshake", fn := fun _ => fun
  | [d] => { results := [.lit (.bool true)], args := [d] }
  | _ => none }
def topHandshakeRow : OpenClaim := { program := "ytmhpecfgipmgaaa", sum := "aae00cdf9975cca57466e4b0a76651408bab7cadfe64a375582d0df3e9584cc7", func := "lychgate/lychgatetop.TopHandshake", spec := "topHandshake", unfollowed := true, recurses := true, plainKeys := false, apart := false }
def TopHandshakeSaid : Prop := topHandshakeRow.holds Try.pinned (OpenSpec.ofChange topHandshakeSpec)

/-- ITS FALSE NEIGHBOUR: 'it returns false'. Refute it at one input. -/
def topHandshakeWrong : ChangeSpec := { name := "topHandshake", fn := fun _ => fun
  | [d] => { results := [.lit (.bool false)], args := [d] }
  | _ => none }
def TopHandshakeWrongFalsely : Prop := topHandshakeRow.holds Try.pinned (OpenSpec.ofChange topHandshakeWrong)

/- THE SECOND FORM. 'bulk': how many values and letters a reading holds, each counted each time it is reached (what is shared counts as often as it is met; a slice's spare places count too). A statement '..UptoSaid' is the law's where the arguments, and the package variables that the reading takes, are together of bulk at most 1048576: NARROWER than '..Said'. Prove '..Said' where nothing that the law and all that it calls make is longer than what came in: it says more and counts as full. Else prove '..UptoSaid'. A law counts once. -/
mutual
def uptoBulk {H : Type} : DataW H → Nat
  | .lit (.string bytes) => bytes.length + 1
  | .lit _ => 1
  | .nil => 1
  | .ptr d => uptoBulk d + 1
  | .slice elems spare => uptoBulkAll elems + uptoBulkAll spare + 1
  | .agg parts => uptoBulkAll parts + 1
  | .iface _ d => uptoBulk d + 1
  | .map entries => uptoBulkEntries entries + 1
  | .held _ => 1
def uptoBulkAll {H : Type} : List (DataW H) → Nat
  | [] => 0
  | d :: r => uptoBulk d + uptoBulkAll r
def uptoBulkEntries {H : Type} : List (Lit × DataW H) → Nat
  | [] => 0
  | x :: r => uptoBulkEntry x + uptoBulkEntries r
def uptoBulkEntry {H : Type} : Lit × DataW H → Nat
  | (.string bytes, d) => bytes.length + uptoBulk d + 1
  | (_, d) => uptoBulk d + 1
 end
def uptoSmall : (H : Type) → List (DataW H) → Bool := fun _ ds => decide (uptoBulkAll ds ≤ 1048576)
def OpenSpec.upto (s : _root_.Go.ChangeSpec) : _root_.Go.OpenSpec := { _root_.Go.OpenSpec.ofChange s with cond := some uptoSmall }

/-- 'lychgatelaw07.TrackNext', WHERE WHAT IT READS IS OF BULK AT MOST 1048576: true; the input reads as it did. -/
def trackNextUptoRow : OpenClaim := { program := "ytmhpecfgipmgaaa", sum := "aae00cdf9975cca57466e4b0a76651408bab7cadfe64a375582d0df3e9584cc7", func := "lychgate/lychgatelaw07.TrackNext", spec := "trackNext", unfollowed := true, recurses := true, plainKeys := false, apart := false, narrowed := true }
def TrackNextUptoSaid : Prop := trackNextUptoRow.holds Try.pinned (OpenSpec.upto trackNextSpec)

/-- 'lychgatelaw07.TrackClosed', WHERE WHAT IT READS IS OF BULK AT MOST 1048576: true; the input reads as it did. -/
def trackClosedUptoRow : OpenClaim := { program := "ytmhpecfgipmgaaa", sum := "aae00cdf9975cca57466e4b0a76651408bab7cadfe64a375582d0df3e9584cc7", func := "lychgate/lychgatelaw07.TrackClosed", spec := "trackClosed", unfollowed := true, recurses := true, plainKeys := false, apart := false, narrowed := true }
def TrackClosedUptoSaid : Prop := trackClosedUptoRow.holds Try.pinned (OpenSpec.upto trackClosedSpec)

/-- 'lychgatelaw07.TrackFirst', WHERE WHAT IT READS IS OF BULK AT MOST 1048576: true; the input reads as it did. -/
def trackFirstUptoRow : OpenClaim := { program := "ytmhpecfgipmgaaa", sum := "aae00cdf9975cca57466e4b0a76651408bab7cadfe64a375582d0df3e9584cc7", func := "lychgate/lychgatelaw07.TrackFirst", spec := "trackFirst", unfollowed := true, recurses := true, plainKeys := false, apart := false, narrowed := true }
def TrackFirstUptoSaid : Prop := trackFirstUptoRow.holds Try.pinned (OpenSpec.upto trackFirstSpec)

/-- 'lychgatelaw07.TrackResets', WHERE WHAT IT READS IS OF BULK AT MOST 1048576: true; the input reads as it did. -/
def trackResetsUptoRow : OpenClaim := { program := "ytmhpecfgipmgaaa", sum := "aae00cdf9975cca57466e4b0a76651408bab7cadfe64a375582d0df3e9584cc7", func := "lychgate/lychgatelaw07.TrackResets", spec := "trackResets", unfollowed := true, recurses := true, plainKeys := false, apart := false, narrowed := true }
def TrackResetsUptoSaid : Prop := trackResetsUptoRow.holds Try.pinned (OpenSpec.upto trackResetsSpec)

/-- 'lychgatelaw07.TrackOpen', WHERE WHAT IT READS IS OF BULK AT MOST 1048576: true; the input reads as it did. -/
def trackOpenUptoRow : OpenClaim := { program := "ytmhpecfgipmgaaa", sum := "aae00cdf9975cca57466e4b0a76651408bab7cadfe64a375582d0df3e9584cc7", func := "lychgate/lychgatelaw07.TrackOpen", spec := "trackOpen", unfollowed := true, recurses := true, plainKeys := false, apart := false, narrowed := true }
def TrackOpenUptoSaid : Prop := trackOpenUptoRow.holds Try.pinned (OpenSpec.upto trackOpenSpec)

/-- 'lychgatelaw07.TrackPlain', WHERE WHAT IT READS IS OF BULK AT MOST 1048576: true; the input reads as it did. -/
def trackPlainUptoRow : OpenClaim := { program := "ytmhpecfgipmgaaa", sum := "aae00cdf9975cca57466e4b0a76651408bab7cadfe64a375582d0df3e9584cc7", func := "lychgate/lychgatelaw07.TrackPlain", spec := "trackPlain", unfollowed := true, recurses := true, plainKeys := false, apart := false, narrowed := true }
def TrackPlainUptoSaid : Prop := trackPlainUptoRow.holds Try.pinned (OpenSpec.upto trackPlainSpec)

/-- 'lychgatelaw07.TrackLives', WHERE WHAT IT READS IS OF BULK AT MOST 1048576: true; the input reads as it did. -/
def trackLivesUptoRow : OpenClaim := { program := "ytmhpecfgipmgaaa", sum := "aae00cdf9975cca57466e4b0a76651408bab7cadfe64a375582d0df3e9584cc7", func := "lychgate/lychgatelaw07.TrackLives", spec := "trackLives", unfollowed := true, recurses := true, plainKeys := false, apart := false, narrowed := true }
def TrackLivesUptoSaid : Prop := trackLivesUptoRow.holds Try.pinned (OpenSpec.upto trackLivesSpec)

/-- 'lychgatelaw07.TrackOther', WHERE WHAT IT READS IS OF BULK AT MOST 1048576: true; the input reads as it did. -/
def trackOtherUptoRow : OpenClaim := { program := "ytmhpecfgipmgaaa", sum := "aae00cdf9975cca57466e4b0a76651408bab7cadfe64a375582d0df3e9584cc7", func := "lychgate/lychgatelaw07.TrackOther", spec := "trackOther", unfollowed := true, recurses := true, plainKeys := false, apart := false, narrowed := true }
def TrackOtherUptoSaid : Prop := trackOtherUptoRow.holds Try.pinned (OpenSpec.upto trackOtherSpec)

/-- 'lychgatetop.TopHandshake', WHERE WHAT IT READS IS OF BULK AT MOST 1048576: true; the input reads as it did. -/
def topHandshakeUptoRow : OpenClaim := { program := "ytmhpecfgipmgaaa", sum := "aae00cdf9975cca57466e4b0a76651408bab7cadfe64a375582d0df3e9584cc7", func := "lychgate/lychgatetop.TopHandshake", spec := "topHandshake", unfollowed := true, recurses := true, plainKeys := false, apart := false, narrowed := true }
def TopHandshakeUptoSaid : Prop := topHandshakeUptoRow.holds Try.pinned (OpenSpec.upto topHandshakeSpec)

end Rows
end Go.Proofs.Ytmhpecfgipmgaaa
