/-
  No cell of these rows narrows 'for every input' (looked for: loops, veiled, ifaces, maps, wideKeys, modest, calm, conditions, laid).
  DERIVED. THE GIVEN ROWS OF THIS SEAT. 8 by the template 'for every input the law returns true; each argument reads behind the call as it read before'; 0 by the template 'total and deterministic' (their statements: YtiioaklogbjhhaaTotals.lean).
  GIVEN WITH THE SEED: the statements are not yours to turn. If you find one false, say at which input.
  Laid BY PROGRAM, IN A SANDBOX (cutbox-rows.mjs): the forced cells as the released guide's own fill.sh prints them over the translation 9cadb2c42ce5fc09… (all of the seat's roots in one cut). By AI agents, Wed Nov 11 2026. No macro, syntax, notation, axiom, sorry.
-/
import Derived.Test.YtiioaklogbjhhaaChecked
import GoSem.Claim
import GoSem.ClaimJoined
import GoSem.ClaimMapViews
import Derived.JoinedTies
import Derived.KernelRfl
namespace Go.Proofs.Ytiioaklogbjhhaa
/- THE CELL 'sum', in the pinned program and in every row, IS THE sha256 OF THE DUMP (.gsa) THAT YtiioaklogbjhhaaProg.lean LOADS. Nothing in Lean hashes anything: it is a label: what it is worth is what the hold of that sum in a sandbox is worth. -/
noncomputable def Try.pinned : Pinned := { name := "ytiioaklogbjhhaa", sum := "9cadb2c42ce5fc09a88f6d4dc870b993d2da006a632e5556af4e35bba2f02907", checked := Try.checked }
namespace Rows
def none {H : Type} : Left H := { results := [], args := [] }

/-- 'lychgatelaw09.RulesRight': WHATEVER THE INPUT: true; the input reads as it did. -/
def rulesRightSpec : ChangeSpec := { name := "rulesRight", fn := fun _ => fun
  | [d] => { results := [.lit (.bool true)], args := [d] }
  | _ => none }
def rulesRightRow : OpenClaim := { program := "ytiioaklogbjhhaa", sum := "9cadb2c42ce5fc09a88f6d4dc870b993d2da006a632e5556af4e35bba2f02907", func := "lychgate/lychgatelaw09.RulesRight", spec := "rulesRight", unfollowed := true, recurses := true, apart := false }
def RulesRightSaid : Prop := rulesRightRow.holds Try.pinned (OpenSpec.ofChange rulesRightSpec)

/-- ITS FALSE NEIGHBOUR: 'it returns false'. Refute it at one input. -/
def rulesRightWrong : ChangeSpec := { name := "rulesRight", fn := fun _ => fun
  | [d] => { results := [.lit (.bool false)], args := [d] }
  | _ => none }
def RulesRightWrongFalsely : Prop := rulesRightRow.holds Try.pinned (OpenSpec.ofChange rulesRightWrong)

/-- 'lychgatelaw09.RulesFirst': WHATEVER THE INPUT: true; the input reads as it did. -/
def rulesFirstSpec : ChangeSpec := { name := "rulesFirst", fn := fun _ => fun
  | [d1, d2, d3] => { results := [.lit (.bool true)], args := [d1, d2, d3] }
  | _ => none }
def rulesFirstRow : OpenClaim := { program := "ytiioaklogbjhhaa", sum := "9cadb2c42ce5fc09a88f6d4dc870b993d2da006a632e5556af4e35bba2f02907", func := "lychgate/lychgatelaw09.RulesFirst", spec := "rulesFirst", unfollowed := true, recurses := true, apart := false }
def RulesFirstSaid : Prop := rulesFirstRow.holds Try.pinned (OpenSpec.ofChange rulesFirstSpec)

/-- ITS FALSE NEIGHBOUR: 'it returns false'. Refute it at one input. -/
def rulesFirstWrong : ChangeSpec := { name := "rulesFirst", fn := fun _ => fun
  | [d1, d2, d3] => { results := [.lit (.bool false)], args := [d1, d2, d3] }
  | _ => none }
def RulesFirstWrongFalsely : Prop := rulesFirstRow.holds Try.pinned (OpenSpec.ofChange rulesFirstWrong)

/-- 'lychgatelaw09.RulesHold': WHATEVER THE INPUT: true; the input reads as it did. -/
def rulesHoldSpec : ChangeSpec := { name := "rulesHold", fn := fun _ => fun
  | [d1, d2] => { results := [.lit (.bool true)], args := [d1, d2] }
  | _ => none }
def rulesHoldRow : OpenClaim := { program := "ytiioaklogbjhhaa", sum := "9cadb2c42ce5fc09a88f6d4dc870b993d2da006a632e5556af4e35bba2f02907", func := "lychgate/lychgatelaw09.RulesHold", spec := "rulesHold", unfollowed := true, recurses := true, apart := false }
def RulesHoldSaid : Prop := rulesHoldRow.holds Try.pinned (OpenSpec.ofChange rulesHoldSpec)

/-- ITS FALSE NEIGHBOUR: 'it returns false'. Refute it at one input. -/
def rulesHoldWrong : ChangeSpec := { name := "rulesHold", fn := fun _ => fun
  | [d1, d2] => { results := [.lit (.bool false)], args := [d1, d2] }
  | _ => none }
def RulesHoldWrongFalsely : Prop := rulesHoldRow.holds Try.pinned (OpenSpec.ofChange rulesHoldWrong)

/-- 'lychgatelaw09.RulesMost': WHATEVER THE INPUT: true; the input reads as it did. -/
def rulesMostSpec : ChangeSpec := { name := "rulesMost", fn := fun _ => fun
  | [d1, d2] => { results := [.lit (.bool true)], args := [d1, d2] }
  | _ => none }
def rulesMostRow : OpenClaim := { program := "ytiioaklogbjhhaa", sum := "9cadb2c42ce5fc09a88f6d4dc870b993d2da006a632e5556af4e35bba2f02907", func := "lychgate/lychgatelaw09.RulesMost", spec := "rulesMost", unfollowed := true, recurses := true, apart := false }
def RulesMostSaid : Prop := rulesMostRow.holds Try.pinned (OpenSpec.ofChange rulesMostSpec)

/-- ITS FALSE NEIGHBOUR: 'it returns false'. Refute it at one input. -/
def rulesMostWrong : ChangeSpec := { name := "rulesMost", fn := fun _ => fun
  | [d1, d2] => { results := [.lit (.bool false)], args := [d1, d2] }
  | _ => none }
def RulesMostWrongFalsely : Prop := rulesMostRow.holds Try.pinned (OpenSpec.ofChange rulesMostWrong)

/-- 'lychgatetop.TopNets': WHATEVER THE INPUT: true; the input reads as it did. -/
def topNetsSpec : ChangeSpec := { name := "topNets", fn := fun _ => fun
  | [d] => { results := [.lit (.bool true)], args := [d] }
  | _ => none }
def topNetsRow : OpenClaim := { program := "ytiioaklogbjhhaa", sum := "9cadb2c42ce5fc09a88f6d4dc870b993d2da006a632e5556af4e35bba2f02907", func := "lychgate/lychgatetop.TopNets", spec := "topNets", unfollowed := true, recurses := true, apart := false }
def TopNetsSaid : Prop := topNetsRow.holds Try.pinned (OpenSpec.ofChange topNetsSpec)

/-- ITS FALSE NEIGHBOUR: 'it returns false'. Refute it at one input. -/
def topNetsWrong : ChangeSpec := { name := "topNets", fn := fun _ => fun
  | [d] => { results := [.lit (.bool false)], args := [d] }
  | _ => none }
def TopNetsWrongFalsely : Prop := topNetsRow.holds Try.pinned (OpenSpec.ofChange topNetsWrong)

/-- 'lychgatelaw09.RulesPlays': WHATEVER THE INPUT: true; the input reads as it did. -/
def rulesPlaysSpec : ChangeSpec := { name := "rulesPlays", fn := fun _ => fun
  | [d1, d2] => { results := [.lit (.bool true)], args := [d1, d2] }
  | _ => none }
def rulesPlaysRow : OpenClaim := { program := "ytiioaklogbjhhaa", sum := "9cadb2c42ce5fc09a88f6d4dc870b993d2da006a632e5556af4e35bba2f02907", func := "lychgate/lychgatelaw09.RulesPlays", spec := "rulesPlays", unfollowed := true, recurses := true, apart := false }
def RulesPlaysSaid : Prop := rulesPlaysRow.holds Try.pinned (OpenSpec.ofChange rulesPlaysSpec)

/-- ITS FALSE NEIGHBOUR: 'it returns false'. Refute it at one input. -/
def rulesPlaysWrong : ChangeSpec := { name := "rulesPlays", fn := fun _ => fun
  | [d1, d2] => { results := [.lit (.bool false)], args := [d1, d2] }
  | _ => none }
def RulesPlaysWrongFalsely : Prop := rulesPlaysRow.holds Try.pinned (OpenSpec.ofChange rulesPlaysWrong)

/-- 'lychgatelaw09.RulesForks': WHATEVER THE INPUT: true; the input reads as it did. -/
def rulesForksSpec : ChangeSpec := { name := "rulesForks", fn := fun _ => fun
  | [d1, d2, d3] => { results := [.lit (.bool true)], args := [d1, d2, d3] }
  | _ => none }
def rulesForksRow : OpenClaim := { program := "ytiioaklogbjhhaa", sum := "9cadb2c42ce5fc09a88f6d4dc870b993d2da006a632e5556af4e35bba2f02907", func := "lychgate/lychgatelaw09.RulesForks", spec := "rulesForks", unfollowed := true, recurses := true, apart := false }
def RulesForksSaid : Prop := rulesForksRow.holds Try.pinned (OpenSpec.ofChange rulesForksSpec)

/-- ITS FALSE NEIGHBOUR: 'it returns false'. Refute it at one input. -/
def rulesForksWrong : ChangeSpec := { name := "rulesForks", fn := fun _ => fun
  | [d1, d2, d3] => { results := [.lit (.bool false)], args := [d1, d2, d3] }
  | _ => none }
def RulesForksWrongFalsely : Prop := rulesForksRow.holds Try.pinned (OpenSpec.ofChange rulesForksWrong)

/-- 'lychgatelaw09.RulesNone': WHATEVER THE INPUT: true; the input reads as it did. -/
def rulesNoneSpec : ChangeSpec := { name := "rulesNone", fn := fun _ => fun
  | [d1, d2] => { results := [.lit (.bool true)], args := [d1, d2] }
  | _ => none }
def rulesNoneRow : OpenClaim := { program := "ytiioaklogbjhhaa", sum := "9cadb2c42ce5fc09a88f6d4dc870b993d2da006a632e5556af4e35bba2f02907", func := "lychgate/lychgatelaw09.RulesNone", spec := "rulesNone", unfollowed := true, recurses := true, apart := false }
def RulesNoneSaid : Prop := rulesNoneRow.holds Try.pinned (OpenSpec.ofChange rulesNoneSpec)

/-- ITS FALSE NEIGHBOUR: 'it returns false'. Refute it at one input. -/
def rulesNoneWrong : ChangeSpec := { name := "rulesNone", fn := fun _ => fun
  | [d1, d2] => { results := [.lit (.bool false)], args := [d1, d2] }
  | _ => none }
def RulesNoneWrongFalsely : Prop := rulesNoneRow.holds Try.pinned (OpenSpec.ofChange rulesNoneWrong)

/- THE SECOND FORM. 'bulk': how many values and letters a reading holds, each counted each time it is reached (what is shared counts as often as it is met; a slice's spare places count too). A statement '..UptoSaid' is the law's where the arguments, and the package variables that the reading takes, are together of bulk at most 1048576: NARROWER than '..Said'. Prove '..Said' where nothing that the law and all that it calls make is longer than what came in: it says more and counts as full. Else prove '..UptoSaid'. A law counts once. -/
mutual
def uptoBulk {H : Type} : DataW H → Nat
  | .lit (.string bytes) => bytes.length + 1
  | .lit _ => 1
  | .nil => 1
  | .ptr d => uptoBulk d + 1
  | .slice elems spare => uptoBulkAll elems + uptoBulkAll spare + 1
  | .agg parts => uptoBulkAll parts + 1
  | .iface _ d => uptoBulk d + 1
  | .map entries => uptoBulkEntries entries + 1
  | .held _ => 1
def uptoBulkAll {H : Type} : List (DataW H) → Nat
  | [] => 0
  | d :: r => uptoBulk d + uptoBulkAll r
def uptoBulkEntries {H : Type} : List (Lit × DataW H) → Nat
  | [] => 0
  | x :: r => uptoBulkEntry x + uptoBulkEntries r
def uptoBulkEntry {H : Type} : Lit × DataW H → Nat
  | (.string bytes, d) => bytes.length + uptoBulk d + 1
  | (_, d) => uptoBulk d + 1
 end
def uptoSmall : (H : Type) → List (DataW H) → Bool := fun _ ds => decide (uptoBulkAll ds ≤ 1048576)
def OpenSpec.upto (s : _root_.Go.ChangeSpec) : _root_.Go.OpenSpec := { _root_.Go.OpenSpec.ofChange s with cond := some uptoSmall }

/-- 'lychgatelaw09.RulesRight', WHERE WHAT IT READS IS OF BULK AT MOST 1048576: true; the input reads as it did. -/
def rulesRightUptoRow : OpenClaim := { program := "ytiioaklogbjhhaa", sum := "9cadb2c42ce5fc09a88f6d4dc870b993d2da006a632e5556af4e35bba2f02907", func := "lychgate/lychgatelaw09.RulesRight", spec := "rulesRight", unfollowed := true, recurses := true, apart := false, narrowed := true }
def RulesRightUptoSaid : Prop := rulesRightUptoRow.holds Try.pinned (OpenSpec.upto rulesRightSpec)

/-- 'lychgatelaw09.RulesFirst', WHERE WHAT IT READS IS OF BULK AT MOST 1048576: true; the input reads as it did. -/
def rulesFirstUptoRow : OpenClaim := { program := "ytiioaklogbjhhaa", sum := "9cadb2c42ce5fc09a88f6d4dc870b993d2da006a632e5556af4e35bba2f02907", func := "lychgate/lychgatelaw09.RulesFirst", spec := "rulesFirst", unfollowed := true, recurses := true, apart := false, narrowed := true }
def RulesFirstUptoSaid : Prop := rulesFirstUptoRow.holds Try.pinned (OpenSpec.upto rulesFirstSpec)

/-- 'lychgatelaw09.RulesHold', WHERE WHAT IT READS IS OF BULK AT MOST 1048576: true; the input reads as it did. -/
def rulesHoldUptoRow : OpenClaim := { program := "ytiioaklogbjhhaa", sum := "9cadb2c42ce5fc09a88f6d4dc870b993d2da006a632e5556af4e35bba2f02907", func := "lychgate/lychgatelaw09.RulesHold", spec := "rulesHold", unfollowed := true, recurses := true, apart := false, narrowed := true }
def RulesHoldUptoSaid : Prop := rulesHoldUptoRow.holds Try.pinned (OpenSpec.upto rulesHoldSpec)

/-- 'lychgatelaw09.RulesMost', WHERE WHAT IT READS IS OF BULK AT MOST 1048576: true; the input reads as it did. -/
def rulesMostUptoRow : OpenClaim := { program := "ytiioaklogbjhhaa", sum := "9cadb2c42ce5fc09a88f6d4dc870b993d2da006a632e5556af4e35bba2f02907", func := "lychgate/lychgatelaw09.RulesMost", spec := "rulesMost", unfollowed := true, recurses := true, apart := false, narrowed := true }
def RulesMostUptoSaid : Prop := rulesMostUptoRow.holds Try.pinned (OpenSpec.upto rulesMostSpec)

/-- 'lychgatetop.TopNets', WHERE WHAT IT READS IS OF BULK AT MOST 1048576: true; the input reads as it did. -/
def topNetsUptoRow : OpenClaim := { program := "ytiioaklogbjhhaa", sum := "9cadb2c42ce5fc09a88f6d4dc870b993d2da006a632e5556af4e35bba2f02907", func := "lychgate/lychgatetop.TopNets", spec := "topNets", unfollowed := true, recurses := true, apart := false, narrowed := true }
def TopNetsUptoSaid : Prop := topNetsUptoRow.holds Try.pinned (OpenSpec.upto topNetsSpec)

/-- 'lychgatelaw09.RulesPlays', WHERE WHAT IT READS IS OF BULK AT MOST 1048576: true; the input reads as it did. -/
def rulesPlaysUptoRow : OpenClaim := { program := "ytiioaklogbjhhaa", sum := "9cadb2c42ce5fc09a88f6d4dc870b993d2da006a632e5556af4e35bba2f02907", func := "lychgate/lychgatelaw09.RulesPlays", spec := "rulesPlays", unfollowed := true, recurses := true, apart := false, narrowed := true }
def RulesPlaysUptoSaid : Prop := rulesPlaysUptoRow.holds Try.pinned (OpenSpec.upto rulesPlaysSpec)

/-- 'lychgatelaw09.RulesForks', WHERE WHAT IT READS IS OF BULK AT MOST 1048576: true; the input reads as it did. -/
def rulesForksUptoRow : OpenClaim := { program := "ytiioaklogbjhhaa", sum := "9cadb2c42ce5fc09a88f6d4dc870b993d2da006a632e5556af4e35bba2f02907", func := "lychgate/lychgatelaw09.RulesForks", spec := "rulesForks", unfollowed := true, recurses := true, apart := false, narrowed := true }
def RulesForksUptoSaid : Prop := rulesForksUptoRow.holds Try.pinned (OpenSpec.upto rulesForksSpec)

/-- 'lychgatelaw09.RulesNone', WHERE WHAT IT READS IS OF BULK AT MOST 1048576: true; the input reads as it did. -/
def rulesNoneUptoRow : OpenClaim := { program := "ytiioaklogbjhhaa", sum := "9cadb2c42ce5fc09a88f6d4dc870b993d2da006a632e5556af4e35bba2f02907", func := "lychgate/lychgatelaw09.RulesNone", spec := "rulesNone", unfollowed := true, recurses := true, apart := false, narrowed := true }
def RulesNoneUptoSaid : Prop := rulesNoneUptoRow.holds Try.pinned (OpenSpec.upto rulesNoneSpec)

end Rows
end Go.Proofs.Ytiioaklogbjhhaa
