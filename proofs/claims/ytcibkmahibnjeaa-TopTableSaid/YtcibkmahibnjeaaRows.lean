/-
  No cell of these rows narrows 'for every input' (looked for: loops, veiled, ifaces, maps, wideKeys, modest, calm, conditions, laid).
  DERIVED. THE GIVEN ROWS OF THIS SEAT. 8 by the template 'for every input the law returns true; each argument reads behind the call as it read before'; 0 by the template 'total and deterministic' (their statements: YtcibkmahibnjeaaTotals.lean).
  GIVEN WITH THE SEED: the statements are not yours to turn. If you find one false, say at which input.
  Laid BY PROGRAM, IN A SANDBOX (cutbox-rows.mjs): the forced cells as the released guide's own fill.sh prints them over the translation 88fce955acaea573… (all of the seat's roots in one cut). By AI agents, Wed Nov 11 2026. No macro, syntax, notation, axiom, sorry.
-/
import Derived.Test.YtcibkmahibnjeaaChecked
import GoSem.Claim
import GoSem.ClaimJoined
import GoSem.ClaimMapViews
import Derived.JoinedTies
import Derived.KernelRfl
namespace Go.Proofs.Ytcibkmahibnjeaa
/- THE CELL 'sum', in the pinned program and in every row, IS THE sha256 OF THE DUMP (.gsa) THAT YtcibkmahibnjeaaProg.lean LOADS. Nothing in Lean hashes anything: it is a label: what it is worth is what the hold of that sum in a sandbox is worth. -/
noncomputable def Try.pinned : Pinned := { name := "ytcibkmahibnjeaa", sum := "88fce955acaea573dd70a49eb0230b9717757f270dfdde1674d8c6818f9fd15a", checked := Try.checked }
namespace Rows
def none {H : Type} : Left H := { results := [], args := [] }

/-- 'lychgatelaw06.TableDue': WHATEVER THE INPUT: true; the input reads as it did. -/
def tableDueSpec : ChangeSpec := { name := "tableDue", fn := fun _ => fun
  | [d1, d2, d3] => { results := [.lit (.bool true)], args := [d1, d2, d3] }
  | _ => none }
def tableDueRow : OpenClaim := { program := "ytcibkmahibnjeaa", sum := "88fce955acaea573dd70a49eb0230b9717757f270dfdde1674d8c6818f9fd15a", func := "lychgate/lychgatelaw06.TableDue", spec := "tableDue", unfollowed := true, recurses := true, apart := false }
def TableDueSaid : Prop := tableDueRow.holds Try.pinned (OpenSpec.ofChange tableDueSpec)

/-- ITS FALSE NEIGHBOUR: 'it returns false'. Refute it at one input. -/
def tableDueWrong : ChangeSpec := { name := "tableDue", fn := fun _ => fun
  | [d1, d2, d3] => { results := [.lit (.bool false)], args := [d1, d2, d3] }
  | _ => none }
def TableDueWrongFalsely : Prop := tableDueRow.holds Try.pinned (OpenSpec.ofChange tableDueWrong)

/-- 'lychgatelaw06.TableLimits': WHATEVER THE INPUT: true; the input reads as it did. -/
def tableLimitsSpec : ChangeSpec := { name := "tableLimits", fn := fun _ => fun
  | [d1, d2] => { results := [.lit (.bool true)], args := [d1, d2] }
  | _ => none }
def tableLimitsRow : OpenClaim := { program := "ytcibkmahibnjeaa", sum := "88fce955acaea573dd70a49eb0230b9717757f270dfdde1674d8c6818f9fd15a", func := "lychgate/lychgatelaw06.TableLimits", spec := "tableLimits", unfollowed := true, recurses := true, apart := false }
def TableLimitsSaid : Prop := tableLimitsRow.holds Try.pinned (OpenSpec.ofChange tableLimitsSpec)

/-- ITS FALSE NEIGHBOUR: 'it returns false'. Refute it at one input. -/
def tableLimitsWrong : ChangeSpec := { name := "tableLimits", fn := fun _ => fun
  | [d1, d2] => { results := [.lit (.bool false)], args := [d1, d2] }
  | _ => none }
def TableLimitsWrongFalsely : Prop := tableLimitsRow.holds Try.pinned (OpenSpec.ofChange tableLimitsWrong)

/-- 'lychgatelaw06.TableKeys': WHATEVER THE INPUT: true; the input reads as it did. -/
def tableKeysSpec : ChangeSpec := { name := "tableKeys", fn := fun _ => fun
  | [d1, d2, d3] => { results := [.lit (.bool true)], args := [d1, d2, d3] }
  | _ => none }
def tableKeysRow : OpenClaim := { program := "ytcibkmahibnjeaa", sum := "88fce955acaea573dd70a49eb0230b9717757f270dfdde1674d8c6818f9fd15a", func := "lychgate/lychgatelaw06.TableKeys", spec := "tableKeys", unfollowed := true, recurses := true, apart := false }
def TableKeysSaid : Prop := tableKeysRow.holds Try.pinned (OpenSpec.ofChange tableKeysSpec)

/-- ITS FALSE NEIGHBOUR: 'it returns false'. Refute it at one input. -/
def tableKeysWrong : ChangeSpec := { name := "tableKeys", fn := fun _ => fun
  | [d1, d2, d3] => { results := [.lit (.bool false)], args := [d1, d2, d3] }
  | _ => none }
def TableKeysWrongFalsely : Prop := tableKeysRow.holds Try.pinned (OpenSpec.ofChange tableKeysWrong)

/-- 'lychgatelaw06.TablePlays': WHATEVER THE INPUT: true; the input reads as it did. -/
def tablePlaysSpec : ChangeSpec := { name := "tablePlays", fn := fun _ => fun
  | [d1, d2, d3] => { results := [.lit (.bool true)], args := [d1, d2, d3] }
  | _ => none }
def tablePlaysRow : OpenClaim := { program := "ytcibkmahibnjeaa", sum := "88fce955acaea573dd70a49eb0230b9717757f270dfdde1674d8c6818f9fd15a", func := "lychgate/lychgatelaw06.TablePlays", spec := "tablePlays", unfollowed := true, recurses := true, apart := false }
def TablePlaysSaid : Prop := tablePlaysRow.holds Try.pinned (OpenSpec.ofChange tablePlaysSpec)

/-- ITS FALSE NEIGHBOUR: 'it returns false'. Refute it at one input. -/
def tablePlaysWrong : ChangeSpec := { name := "tablePlays", fn := fun _ => fun
  | [d1, d2, d3] => { results := [.lit (.bool false)], args := [d1, d2, d3] }
  | _ => none }
def TablePlaysWrongFalsely : Prop := tablePlaysRow.holds Try.pinned (OpenSpec.ofChange tablePlaysWrong)

/-- 'lychgatelaw06.TableBack': WHATEVER THE INPUT: true; the input reads as it did. -/
def tableBackSpec : ChangeSpec := { name := "tableBack", fn := fun _ => fun
  | [d1, d2, d3] => { results := [.lit (.bool true)], args := [d1, d2, d3] }
  | _ => none }
def tableBackRow : OpenClaim := { program := "ytcibkmahibnjeaa", sum := "88fce955acaea573dd70a49eb0230b9717757f270dfdde1674d8c6818f9fd15a", func := "lychgate/lychgatelaw06.TableBack", spec := "tableBack", unfollowed := true, recurses := true, apart := false }
def TableBackSaid : Prop := tableBackRow.holds Try.pinned (OpenSpec.ofChange tableBackSpec)

/-- ITS FALSE NEIGHBOUR: 'it returns false'. Refute it at one input. -/
def tableBackWrong : ChangeSpec := { name := "tableBack", fn := fun _ => fun
  | [d1, d2, d3] => { results := [.lit (.bool false)], args := [d1, d2, d3] }
  | _ => none }
def TableBackWrongFalsely : Prop := tableBackRow.holds Try.pinned (OpenSpec.ofChange tableBackWrong)

/-- 'lychgatelaw06.TableForks': WHATEVER THE INPUT: true; the input reads as it did. -/
def tableForksSpec : ChangeSpec := { name := "tableForks", fn := fun _ => fun
  | [d1, d2, d3] => { results := [.lit (.bool true)], args := [d1, d2, d3] }
  | _ => none }
def tableForksRow : OpenClaim := { program := "ytcibkmahibnjeaa", sum := "88fce955acaea573dd70a49eb0230b9717757f270dfdde1674d8c6818f9fd15a", func := "lychgate/lychgatelaw06.TableForks", spec := "tableForks", unfollowed := true, recurses := true, apart := false }
def TableForksSaid : Prop := tableForksRow.holds Try.pinned (OpenSpec.ofChange tableForksSpec)

/-- ITS FALSE NEIGHBOUR: 'it returns false'. Refute it at one input. -/
def tableForksWrong : ChangeSpec := { name := "tableForks", fn := fun _ => fun
  | [d1, d2, d3] => { results := [.lit (.bool false)], args := [d1, d2, d3] }
  | _ => none }
def TableForksWrongFalsely : Prop := tableForksRow.holds Try.pinned (OpenSpec.ofChange tableForksWrong)

/-- 'lychgatelaw06.TableNone': WHATEVER THE INPUT: true; the input reads as it did. -/
def tableNoneSpec : ChangeSpec := { name := "tableNone", fn := fun _ => fun
  | [d1, d2] => { results := [.lit (.bool true)], args := [d1, d2] }
  | _ => none }
def tableNoneRow : OpenClaim := { program := "ytcibkmahibnjeaa", sum := "88fce955acaea573dd70a49eb0230b9717757f270dfdde1674d8c6818f9fd15a", func := "lychgate/lychgatelaw06.TableNone", spec := "tableNone", unfollowed := true, recurses := true, apart := false }
def TableNoneSaid : Prop := tableNoneRow.holds Try.pinned (OpenSpec.ofChange tableNoneSpec)

/-- ITS FALSE NEIGHBOUR: 'it returns false'. Refute it at one input. -/
def tableNoneWrong : ChangeSpec := { name := "tableNone", fn := fun _ => fun
  | [d1, d2] => { results := [.lit (.bool false)], args := [d1, d2] }
  | _ => none }
def TableNoneWrongFalsely : Prop := tableNoneRow.holds Try.pinned (OpenSpec.ofChange tableNoneWrong)

/-- 'lychgatetop.TopTable': WHATEVER THE INPUT: true; the input reads as it did. -/
def topTableSpec : ChangeSpec := { name := "topTable", fn := fun _ => fun
  | [d1, d2] => { results := [.lit (.bool true)], args := [d1, d2] }
  | _ => none }
def topTableRow : OpenClaim := { program := "ytcibkmahibnjeaa", sum := "88fce955acaea573dd70a49eb0230b9717757f270dfdde1674d8c6818f9fd15a", func := "lychgate/lychgatetop.TopTable", spec := "topTable", unfollowed := true, recurses := true, apart := false }
def TopTableSaid : Prop := topTableRow.holds Try.pinned (OpenSpec.ofChange topTableSpec)

/-- ITS FALSE NEIGHBOUR: 'it returns false'. Refute it at one input. -/
def topTableWrong : ChangeSpec := { name := "topTable", fn := fun _ => fun
  | [d1, d2] => { results := [.lit (.bool false)], args := [d1, d2] }
  | _ => none }
def TopTableWrongFalsely : Prop := topTableRow.holds Try.pinned (OpenSpec.ofChange topTableWrong)

/- THE SECOND FORM. 'bulk': how many values and letters a reading holds, each counted each time it is reached (what is shared counts as often as it is met; a slice's spare places count too). A statement '..UptoSaid' is the law's where the arguments, and the package variables that the reading takes, are together of bulk at most 1048576: NARROWER than '..Said'. Prove '..Said' where nothing that the law and all that it calls make is longer than what came in: it says more and counts as full. Else prove '..UptoSaid'. A law counts once. -/
mutual
def uptoBulk {H : Type} : DataW H → Nat
  | .lit (.string bytes) => bytes.length + 1
  | .lit _ => 1
  | .nil => 1
  | .ptr d => uptoBulk d + 1
  | .slice elems spare => uptoBulkAll elems + uptoBulkAll spare + 1
  | .agg parts => uptoBulkAll parts + 1
  | .iface _ d => uptoBulk d + 1
  | .map entries => uptoBulkEntries entries + 1
  | .held _ => 1
def uptoBulkAll {H : Type} : List (DataW H) → Nat
  | [] => 0
  | d :: r => uptoBulk d + uptoBulkAll r
def uptoBulkEntries {H : Type} : List (Lit × DataW H) → Nat
  | [] => 0
  | x :: r => uptoBulkEntry x + uptoBulkEntries r
def uptoBulkEntry {H : Type} : Lit × DataW H → Nat
  | (.string bytes, d) => bytes.length + uptoBulk d + 1
  | (_, d) => uptoBulk d + 1
 end
def uptoSmall : (H : Type) → List (DataW H) → Bool := fun _ ds => decide (uptoBulkAll ds ≤ 1048576)
def OpenSpec.upto (s : _root_.Go.ChangeSpec) : _root_.Go.OpenSpec := { _root_.Go.OpenSpec.ofChange s with cond := some uptoSmall }

/-- 'lychgatelaw06.TableDue', WHERE WHAT IT READS IS OF BULK AT MOST 1048576: true; the input reads as it did. -/
def tableDueUptoRow : OpenClaim := { program := "ytcibkmahibnjeaa", sum := "88fce955acaea573dd70a49eb0230b9717757f270dfdde1674d8c6818f9fd15a", func := "lychgate/lychgatelaw06.TableDue", spec := "tableDue", unfollowed := true, recurses := true, apart := false, narrowed := true }
def TableDueUptoSaid : Prop := tableDueUptoRow.holds Try.pinned (OpenSpec.upto tableDueSpec)

/-- 'lychgatelaw06.TableLimits', WHERE WHAT IT READS IS OF BULK AT MOST 1048576: true; the input reads as it did. -/
def tableLimitsUptoRow : OpenClaim := { program := "ytcibkmahibnjeaa", sum := "88fce955acaea573dd70a49eb0230b9717757f270dfdde1674d8c6818f9fd15a", func := "lychgate/lychgatelaw06.TableLimits", spec := "tableLimits", unfollowed := true, recurses := true, apart := false, narrowed := true }
def TableLimitsUptoSaid : Prop := tableLimitsUptoRow.holds Try.pinned (OpenSpec.upto tableLimitsSpec)

/-- 'lychgatelaw06.TableKeys', WHERE WHAT IT READS IS OF BULK AT MOST 1048576: true; the input reads as it did. -/
def tableKeysUptoRow : OpenClaim := { program := "ytcibkmahibnjeaa", sum := "88fce955acaea573dd70a49eb0230b9717757f270dfdde1674d8c6818f9fd15a", func := "lychgate/lychgatelaw06.TableKeys", spec := "tableKeys", unfollowed := true, recurses := true, apart := false, narrowed := true }
def TableKeysUptoSaid : Prop := tableKeysUptoRow.holds Try.pinned (OpenSpec.upto tableKeysSpec)

/-- 'lychgatelaw06.TablePlays', WHERE WHAT IT READS IS OF BULK AT MOST 1048576: true; the input reads as it did. -/
def tablePlaysUptoRow : OpenClaim := { program := "ytcibkmahibnjeaa", sum := "88fce955acaea573dd70a49eb0230b9717757f270dfdde1674d8c6818f9fd15a", func := "lychgate/lychgatelaw06.TablePlays", spec := "tablePlays", unfollowed := true, recurses := true, apart := false, narrowed := true }
def TablePlaysUptoSaid : Prop := tablePlaysUptoRow.holds Try.pinned (OpenSpec.upto tablePlaysSpec)

/-- 'lychgatelaw06.TableBack', WHERE WHAT IT READS IS OF BULK AT MOST 1048576: true; the input reads as it did. -/
def tableBackUptoRow : OpenClaim := { program := "ytcibkmahibnjeaa", sum := "88fce955acaea573dd70a49eb0230b9717757f270dfdde1674d8c6818f9fd15a", func := "lychgate/lychgatelaw06.TableBack", spec := "tableBack", unfollowed := true, recurses := true, apart := false, narrowed := true }
def TableBackUptoSaid : Prop := tableBackUptoRow.holds Try.pinned (OpenSpec.upto tableBackSpec)

/-- 'lychgatelaw06.TableForks', WHERE WHAT IT READS IS OF BULK AT MOST 1048576: true; the input reads as it did. -/
def tableForksUptoRow : OpenClaim := { program := "ytcibkmahibnjeaa", sum := "88fce955acaea573dd70a49eb0230b9717757f270dfdde1674d8c6818f9fd15a", func := "lychgate/lychgatelaw06.TableForks", spec := "tableForks", unfollowed := true, recurses := true, apart := false, narrowed := true }
def TableForksUptoSaid : Prop := tableForksUptoRow.holds Try.pinned (OpenSpec.upto tableForksSpec)

/-- 'lychgatelaw06.TableNone', WHERE WHAT IT READS IS OF BULK AT MOST 1048576: true; the input reads as it did. -/
def tableNoneUptoRow : OpenClaim := { program := "ytcibkmahibnjeaa", sum := "88fce955acaea573dd70a49eb0230b9717757f270dfdde1674d8c6818f9fd15a", func := "lychgate/lychgatelaw06.TableNone", spec := "tableNone", unfollowed := true, recurses := true, apart := false, narrowed := true }
def TableNoneUptoSaid : Prop := tableNoneUptoRow.holds Try.pinned (OpenSpec.upto tableNoneSpec)

/-- 'lychgatetop.TopTable', WHERE WHAT IT READS IS OF BULK AT MOST 1048576: true; the input reads as it did. -/
def topTableUptoRow : OpenClaim := { program := "ytcibkmahibnjeaa", sum := "88fce955acaea573dd70a49eb0230b9717757f270dfdde1674d8c6818f9fd15a", func := "lychgate/lychgatetop.TopTable", spec := "topTable", unfollowed := true, recurses := true, apart := false, narrowed := true }
def TopTableUptoSaid : Prop := topTableUptoRow.holds Try.pinned (OpenSpec.upto topTableSpec)

end Rows
end Go.Proofs.Ytcibkmahibnjeaa
