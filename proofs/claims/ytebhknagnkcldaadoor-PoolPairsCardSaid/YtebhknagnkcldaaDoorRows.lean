/-
  NARROWER THAN 'FOR EVERY INPUT', by the rows' own cells (each row's printed sentence says how): PoolPlays: laid · PoolOnce: laid · PoolBack: laid · PoolWish: laid · PoolForks: laid · PoolNone: laid · PoolPairs: laid · TopPorts: laid.
  DERIVED. THE GIVEN ROWS OF THIS SEAT. 8 by the template 'for every input the law returns true; each argument reads behind the call as it read before'; 0 by the template 'total and deterministic' (their statements: YtebhknagnkcldaaDoorTotals.lean).
  GIVEN WITH THE SEED: the statements are not yours to turn. If you find one false, say at which input.
  Laid BY PROGRAM, IN A SANDBOX (cutbox-rows.mjs): the forced cells as the released guide's own fill.sh prints them over the translation aedde7c9db1b592e… (all of the seat's roots in one cut). By AI agents, Wed Nov 11 2026. No macro, syntax, notation, axiom, sorry.
-/
import Derived.Test.YtebhknagnkcldaaDoorChecked
import GoSem.Claim
import GoSem.ClaimJoined
import GoSem.ClaimMapViews
import Derived.JoinedTies
import Derived.KernelRfl
namespace Go.Proofs.YtebhknagnkcldaaDoor
/- THE CELL 'sum', in the pinned program and in every row, IS THE sha256 OF THE DUMP (.gsa) THAT YtebhknagnkcldaaDoorProg.lean LOADS. Nothing in Lean hashes anything: it is a label: what it is worth is what the hold of that sum in a sandbox is worth. -/
noncomputable def Tryd.pinned : Pinned := { name := "ytebhknagnkcldaadoor", sum := "aedde7c9db1b592ee10ab0ccbcbdc6a907a9bbe1b6055dce1bfed8e45ccb817b", checked := Tryd.checked }
namespace Rows
def none {H : Type} : Left H := { results := [], args := [] }

/- WHAT THE LISTED PACKAGE-LEVEL VARIABLES READ AS WHEN THE CALL BEGINS. Each datum BY PROGRAM (the guide's laid-datum.mjs) off the statement by which the dump's own 'gosem.cut.vars' lays the variable. In a bare row this is a premise. The card (YtebhknagnkcldaaDoorCards.lean) ties it to the program's text. -/
def laid_math_bits_deBruijn64tab {H : Type} : DataW H := .agg [.lit (.int .u8 0), .lit (.int .u8 1), .lit (.int .u8 56), .lit (.int .u8 2), .lit (.int .u8 57), .lit (.int .u8 49), .lit (.int .u8 28), .lit (.int .u8 3), .lit (.int .u8 61), .lit (.int .u8 58), .lit (.int .u8 42), .lit (.int .u8 50), .lit (.int .u8 38), .lit (.int .u8 29), .lit (.int .u8 17), .lit (.int .u8 4), .lit (.int .u8 62), .lit (.int .u8 47), .lit (.int .u8 59), .lit (.int .u8 36), .lit (.int .u8 45), .lit (.int .u8 43), .lit (.int .u8 51), .lit (.int .u8 22), .lit (.int .u8 53), .lit (.int .u8 39), .lit (.int .u8 33), .lit (.int .u8 30), .lit (.int .u8 24), .lit (.int .u8 18), .lit (.int .u8 12), .lit (.int .u8 5), .lit (.int .u8 63), .lit (.int .u8 55), .lit (.int .u8 48), .lit (.int .u8 27), .lit (.int .u8 60), .lit (.int .u8 41), .lit (.int .u8 37), .lit (.int .u8 16), .lit (.int .u8 46), .lit (.int .u8 35), .lit (.int .u8 44), .lit (.int .u8 21), .lit (.int .u8 52), .lit (.int .u8 32), .lit (.int .u8 23), .lit (.int .u8 11), .lit (.int .u8 54), .lit (.int .u8 26), .lit (.int .u8 40), .lit (.int .u8 15), .lit (.int .u8 34), .lit (.int .u8 20), .lit (.int .u8 31), .lit (.int .u8 10), .lit (.int .u8 25), .lit (.int .u8 14), .lit (.int .u8 19), .lit (.int .u8 9), .lit (.int .u8 13), .lit (.int .u8 8), .lit (.int .u8 7), .lit (.int .u8 6)]

/-- 'lychgatelaw08.PoolPlays': WHATEVER THE INPUT: true; the input reads as it did. -/
def poolPlaysSpec : ChangeSpec := { name := "poolPlays", fn := fun _ => fun
  | [d1, d2, d3] => { results := [.lit (.bool true)], args := [d1, d2, d3] }
  | _ => none }
def poolPlaysRow : OpenClaim := { program := "ytebhknagnkcldaadoor", sum := "aedde7c9db1b592ee10ab0ccbcbdc6a907a9bbe1b6055dce1bfed8e45ccb817b", func := "lychgate/lychgatelaw08.PoolPlays", spec := "poolPlays", unfollowed := true, recurses := true, named := ["math/bits.deBruijn64tab"], apart := false, laid := [("math/bits.deBruijn64tab", laid_math_bits_deBruijn64tab)] }
def PoolPlaysSaid : Prop := poolPlaysRow.holds Tryd.pinned (OpenSpec.ofChange poolPlaysSpec)

/-- ITS FALSE NEIGHBOUR: 'it returns false'. Refute it at one input. -/
def poolPlaysWrong : ChangeSpec := { name := "poolPlays", fn := fun _ => fun
  | [d1, d2, d3] => { results := [.lit (.bool false)], args := [d1, d2, d3] }
  | _ => none }
def PoolPlaysWrongFalsely : Prop := poolPlaysRow.holds Tryd.pinned (OpenSpec.ofChange poolPlaysWrong)

/-- 'lychgatelaw08.PoolOnce': WHATEVER THE INPUT: true; the input reads as it did. -/
def poolOnceSpec : ChangeSpec := { name := "poolOnce", fn := fun _ => fun
  | [d1, d2, d3] => { results := [.lit (.bool true)], args := [d1, d2, d3] }
  | _ => none }
def poolOnceRow : OpenClaim := { program := "ytebhknagnkcldaadoor", sum := "aedde7c9db1b592ee10ab0ccbcbdc6a907a9bbe1b6055dce1bfed8e45ccb817b", func := "lychgate/lychgatelaw08.PoolOnce", spec := "poolOnce", unfollowed := true, recurses := true, named := ["math/bits.deBruijn64tab"], apart := false, laid := [("math/bits.deBruijn64tab", laid_math_bits_deBruijn64tab)] }
def PoolOnceSaid : Prop := poolOnceRow.holds Tryd.pinned (OpenSpec.ofChange poolOnceSpec)

/-- ITS FALSE NEIGHBOUR: 'it returns false'. Refute it at one input. -/
def poolOnceWrong : ChangeSpec := { name := "poolOnce", fn := fun _ => fun
  | [d1, d2, d3] => { results := [.lit (.bool false)], args := [d1, d2, d3] }
  | _ => none }
def PoolOnceWrongFalsely : Prop := poolOnceRow.holds Tryd.pinned (OpenSpec.ofChange poolOnceWrong)

/-- 'lychgatelaw08.PoolBack': WHATEVER THE INPUT: true; the input reads as it did. -/
def poolBackSpec : ChangeSpec := { name := "poolBack", fn := fun _ => fun
  | [d1, d2, d3] => { results := [.lit (.bool true)], args := [d1, d2, d3] }
  | _ => none }
def poolBackRow : OpenClaim := { program := "ytebhknagnkcldaadoor", sum := "aedde7c9db1b592ee10ab0ccbcbdc6a907a9bbe1b6055dce1bfed8e45ccb817b", func := "lychgate/lychgatelaw08.PoolBack", spec := "poolBack", unfollowed := true, recurses := true, named := ["math/bits.deBruijn64tab"], apart := false, laid := [("math/bits.deBruijn64tab", laid_math_bits_deBruijn64tab)] }
def PoolBackSaid : Prop := poolBackRow.holds Tryd.pinned (OpenSpec.ofChange poolBackSpec)

/-- ITS FALSE NEIGHBOUR: 'it returns false'. Refute it at one input. -/
def poolBackWrong : ChangeSpec := { name := "poolBack", fn := fun _ => fun
  | [d1, d2, d3] => { results := [.lit (.bool false)], args := [d1, d2, d3] }
  | _ => none }
def PoolBackWrongFalsely : Prop := poolBackRow.holds Tryd.pinned (OpenSpec.ofChange poolBackWrong)

/-- 'lychgatelaw08.PoolWish': WHATEVER THE INPUT: true; the input reads as it did. -/
def poolWishSpec : ChangeSpec := { name := "poolWish", fn := fun _ => fun
  | [d1, d2, d3] => { results := [.lit (.bool true)], args := [d1, d2, d3] }
  | _ => none }
def poolWishRow : OpenClaim := { program := "ytebhknagnkcldaadoor", sum := "aedde7c9db1b592ee10ab0ccbcbdc6a907a9bbe1b6055dce1bfed8e45ccb817b", func := "lychgate/lychgatelaw08.PoolWish", spec := "poolWish", unfollowed := true, recurses := true, named := ["math/bits.deBruijn64tab"], apart := false, laid := [("math/bits.deBruijn64tab", laid_math_bits_deBruijn64tab)] }
def PoolWishSaid : Prop := poolWishRow.holds Tryd.pinned (OpenSpec.ofChange poolWishSpec)

/-- ITS FALSE NEIGHBOUR: 'it returns false'. Refute it at one input. -/
def poolWishWrong : ChangeSpec := { name := "poolWish", fn := fun _ => fun
  | [d1, d2, d3] => { results := [.lit (.bool false)], args := [d1, d2, d3] }
  | _ => none }
def PoolWishWrongFalsely : Prop := poolWishRow.holds Tryd.pinned (OpenSpec.ofChange poolWishWrong)

/-- 'lychgatelaw08.PoolForks': WHATEVER THE INPUT: true; the input reads as it did. -/
def poolForksSpec : ChangeSpec := { name := "poolForks", fn := fun _ => fun
  | [d1, d2, d3] => { results := [.lit (.bool true)], args := [d1, d2, d3] }
  | _ => none }
def poolForksRow : OpenClaim := { program := "ytebhknagnkcldaadoor", sum := "aedde7c9db1b592ee10ab0ccbcbdc6a907a9bbe1b6055dce1bfed8e45ccb817b", func := "lychgate/lychgatelaw08.PoolForks", spec := "poolForks", unfollowed := true, recurses := true, named := ["math/bits.deBruijn64tab"], apart := false, laid := [("math/bits.deBruijn64tab", laid_math_bits_deBruijn64tab)] }
def PoolForksSaid : Prop := poolForksRow.holds Tryd.pinned (OpenSpec.ofChange poolForksSpec)

/-- ITS FALSE NEIGHBOUR: 'it returns false'. Refute it at one input. -/
def poolForksWrong : ChangeSpec := { name := "poolForks", fn := fun _ => fun
  | [d1, d2, d3] => { results := [.lit (.bool false)], args := [d1, d2, d3] }
  | _ => none }
def PoolForksWrongFalsely : Prop := poolForksRow.holds Tryd.pinned (OpenSpec.ofChange poolForksWrong)

/-- 'lychgatelaw08.PoolNone': WHATEVER THE INPUT: true; the input reads as it did. -/
def poolNoneSpec : ChangeSpec := { name := "poolNone", fn := fun _ => fun
  | [d1, d2] => { results := [.lit (.bool true)], args := [d1, d2] }
  | _ => none }
def poolNoneRow : OpenClaim := { program := "ytebhknagnkcldaadoor", sum := "aedde7c9db1b592ee10ab0ccbcbdc6a907a9bbe1b6055dce1bfed8e45ccb817b", func := "lychgate/lychgatelaw08.PoolNone", spec := "poolNone", unfollowed := true, recurses := true, named := ["math/bits.deBruijn64tab"], apart := false, laid := [("math/bits.deBruijn64tab", laid_math_bits_deBruijn64tab)] }
def PoolNoneSaid : Prop := poolNoneRow.holds Tryd.pinned (OpenSpec.ofChange poolNoneSpec)

/-- ITS FALSE NEIGHBOUR: 'it returns false'. Refute it at one input. -/
def poolNoneWrong : ChangeSpec := { name := "poolNone", fn := fun _ => fun
  | [d1, d2] => { results := [.lit (.bool false)], args := [d1, d2] }
  | _ => none }
def PoolNoneWrongFalsely : Prop := poolNoneRow.holds Tryd.pinned (OpenSpec.ofChange poolNoneWrong)

/-- 'lychgatelaw08.PoolPairs': WHATEVER THE INPUT: true; the input reads as it did. -/
def poolPairsSpec : ChangeSpec := { name := "poolPairs", fn := fun _ => fun
  | [d1, d2, d3] => { results := [.lit (.bool true)], args := [d1, d2, d3] }
  | _ => none }
def poolPairsRow : OpenClaim := { program := "ytebhknagnkcldaadoor", sum := "aedde7c9db1b592ee10ab0ccbcbdc6a907a9bbe1b6055dce1bfed8e45ccb817b", func := "lychgate/lychgatelaw08.PoolPairs", spec := "poolPairs", unfollowed := true, recurses := true, named := ["math/bits.deBruijn64tab"], apart := false, laid := [("math/bits.deBruijn64tab", laid_math_bits_deBruijn64tab)] }
def PoolPairsSaid : Prop := poolPairsRow.holds Tryd.pinned (OpenSpec.ofChange poolPairsSpec)

/-- ITS FALSE NEIGHBOUR: 'it returns false'. Refute it at one input. -/
def poolPairsWrong : ChangeSpec := { name := "poolPairs", fn := fun _ => fun
  | [d1, d2, d3] => { results := [.lit (.bool false)], args := [d1, d2, d3] }
  | _ => none }
def PoolPairsWrongFalsely : Prop := poolPairsRow.holds Tryd.pinned (OpenSpec.ofChange poolPairsWrong)

/-- 'lychgatetop.TopPorts': WHATEVER THE INPUT: true; the input reads as it did. -/
def topPortsSpec : ChangeSpec := { name := "topPorts", fn := fun _ => fun
  | [d1, d2] => { results := [.lit (.bool true)], args := [d1, d2] }
  | _ => none }
def topPortsRow : OpenClaim := { program := "ytebhknagnkcldaadoor", sum := "aedde7c9db1b592ee10ab0ccbcbdc6a907a9bbe1b6055dce1bfed8e45ccb817b", func := "lychgate/lychgatetop.TopPorts", spec := "topPorts", unfollowed := true, recurses := true, named := ["math/bits.deBruijn64tab"], apart := false, laid := [("math/bits.deBruijn64tab", laid_math_bits_deBruijn64tab)] }
def TopPortsSaid : Prop := topPortsRow.holds Tryd.pinned (OpenSpec.ofChange topPortsSpec)

/-- ITS FALSE NEIGHBOUR: 'it returns false'. Refute it at one input. -/
def topPortsWrong : ChangeSpec := { name := "topPorts", fn := fun _ => fun
  | [d1, d2] => { results := [.lit (.bool false)], args := [d1, d2] }
  | _ => none }
def TopPortsWrongFalsely : Prop := topPortsRow.holds Tryd.pinned (OpenSpec.ofChange topPortsWrong)

/- THE SECOND FORM. 'bulk': how many values and letters a reading holds, each counted each time it is reached (what is shared counts as often as it is met; a slice's spare places count too). A statement '..UptoSaid' is the law's where the arguments, and the package variables that the reading takes, are together of bulk at most 1048576: NARROWER than '..Said'. Prove '..Said' where nothing that the law and all that it calls make is longer than what came in: it says more and counts as full. Else prove '..UptoSaid'. A law counts once. -/
mutual
def uptoBulk {H : Type} : DataW H → Nat
  | .lit (.string bytes) => bytes.length + 1
  | .lit _ => 1
  | .nil => 1
  | .ptr d => uptoBulk d + 1
  | .slice elems spare => uptoBulkAll elems + uptoBulkAll spare + 1
  | .agg parts => uptoBulkAll parts + 1
  | .iface _ d => uptoBulk d + 1
  | .map entries => uptoBulkEntries entries + 1
  | .held _ => 1
def uptoBulkAll {H : Type} : List (DataW H) → Nat
  | [] => 0
  | d :: r => uptoBulk d + uptoBulkAll r
def uptoBulkEntries {H : Type} : List (Lit × DataW H) → Nat
  | [] => 0
  | x :: r => uptoBulkEntry x + uptoBulkEntries r
def uptoBulkEntry {H : Type} : Lit × DataW H → Nat
  | (.string bytes, d) => bytes.length + uptoBulk d + 1
  | (_, d) => uptoBulk d + 1
 end
def uptoSmall : (H : Type) → List (DataW H) → Bool := fun _ ds => decide (uptoBulkAll ds ≤ 1048576)
def OpenSpec.upto (s : _root_.Go.ChangeSpec) : _root_.Go.OpenSpec := { _root_.Go.OpenSpec.ofChange s with cond := some uptoSmall }

/-- 'lychgatelaw08.PoolPlays', WHERE WHAT IT READS IS OF BULK AT MOST 1048576: true; the input reads as it did. -/
def poolPlaysUptoRow : OpenClaim := { program := "ytebhknagnkcldaadoor", sum := "aedde7c9db1b592ee10ab0ccbcbdc6a907a9bbe1b6055dce1bfed8e45ccb817b", func := "lychgate/lychgatelaw08.PoolPlays", spec := "poolPlays", unfollowed := true, recurses := true, named := ["math/bits.deBruijn64tab"], apart := false, laid := [("math/bits.deBruijn64tab", laid_math_bits_deBruijn64tab)], narrowed := true }
def PoolPlaysUptoSaid : Prop := poolPlaysUptoRow.holds Tryd.pinned (OpenSpec.upto poolPlaysSpec)

/-- 'lychgatelaw08.PoolOnce', WHERE WHAT IT READS IS OF BULK AT MOST 1048576: true; the input reads as it did. -/
def poolOnceUptoRow : OpenClaim := { program := "ytebhknagnkcldaadoor", sum := "aedde7c9db1b592ee10ab0ccbcbdc6a907a9bbe1b6055dce1bfed8e45ccb817b", func := "lychgate/lychgatelaw08.PoolOnce", spec := "poolOnce", unfollowed := true, recurses := true, named := ["math/bits.deBruijn64tab"], apart := false, laid := [("math/bits.deBruijn64tab", laid_math_bits_deBruijn64tab)], narrowed := true }
def PoolOnceUptoSaid : Prop := poolOnceUptoRow.holds Tryd.pinned (OpenSpec.upto poolOnceSpec)

/-- 'lychgatelaw08.PoolBack', WHERE WHAT IT READS IS OF BULK AT MOST 1048576: true; the input reads as it did. -/
def poolBackUptoRow : OpenClaim := { program := "ytebhknagnkcldaadoor", sum := "aedde7c9db1b592ee10ab0ccbcbdc6a907a9bbe1b6055dce1bfed8e45ccb817b", func := "lychgate/lychgatelaw08.PoolBack", spec := "poolBack", unfollowed := true, recurses := true, named := ["math/bits.deBruijn64tab"], apart := false, laid := [("math/bits.deBruijn64tab", laid_math_bits_deBruijn64tab)], narrowed := true }
def PoolBackUptoSaid : Prop := poolBackUptoRow.holds Tryd.pinned (OpenSpec.upto poolBackSpec)

/-- 'lychgatelaw08.PoolWish', WHERE WHAT IT READS IS OF BULK AT MOST 1048576: true; the input reads as it did. -/
def poolWishUptoRow : OpenClaim := { program := "ytebhknagnkcldaadoor", sum := "aedde7c9db1b592ee10ab0ccbcbdc6a907a9bbe1b6055dce1bfed8e45ccb817b", func := "lychgate/lychgatelaw08.PoolWish", spec := "poolWish", unfollowed := true, recurses := true, named := ["math/bits.deBruijn64tab"], apart := false, laid := [("math/bits.deBruijn64tab", laid_math_bits_deBruijn64tab)], narrowed := true }
def PoolWishUptoSaid : Prop := poolWishUptoRow.holds Tryd.pinned (OpenSpec.upto poolWishSpec)

/-- 'lychgatelaw08.PoolForks', WHERE WHAT IT READS IS OF BULK AT MOST 1048576: true; the input reads as it did. -/
def poolForksUptoRow : OpenClaim := { program := "ytebhknagnkcldaadoor", sum := "aedde7c9db1b592ee10ab0ccbcbdc6a907a9bbe1b6055dce1bfed8e45ccb817b", func := "lychgate/lychgatelaw08.PoolForks", spec := "poolForks", unfollowed := true, recurses := true, named := ["math/bits.deBruijn64tab"], apart := false, laid := [("math/bits.deBruijn64tab", laid_math_bits_deBruijn64tab)], narrowed := true }
def PoolForksUptoSaid : Prop := poolForksUptoRow.holds Tryd.pinned (OpenSpec.upto poolForksSpec)

/-- 'lychgatelaw08.PoolNone', WHERE WHAT IT READS IS OF BULK AT MOST 1048576: true; the input reads as it did. -/
def poolNoneUptoRow : OpenClaim := { program := "ytebhknagnkcldaadoor", sum := "aedde7c9db1b592ee10ab0ccbcbdc6a907a9bbe1b6055dce1bfed8e45ccb817b", func := "lychgate/lychgatelaw08.PoolNone", spec := "poolNone", unfollowed := true, recurses := true, named := ["math/bits.deBruijn64tab"], apart := false, laid := [("math/bits.deBruijn64tab", laid_math_bits_deBruijn64tab)], narrowed := true }
def PoolNoneUptoSaid : Prop := poolNoneUptoRow.holds Tryd.pinned (OpenSpec.upto poolNoneSpec)

/-- 'lychgatelaw08.PoolPairs', WHERE WHAT IT READS IS OF BULK AT MOST 1048576: true; the input reads as it did. -/
def poolPairsUptoRow : OpenClaim := { program := "ytebhknagnkcldaadoor", sum := "aedde7c9db1b592ee10ab0ccbcbdc6a907a9bbe1b6055dce1bfed8e45ccb817b", func := "lychgate/lychgatelaw08.PoolPairs", spec := "poolPairs", unfollowed := true, recurses := true, named := ["math/bits.deBruijn64tab"], apart := false, laid := [("math/bits.deBruijn64tab", laid_math_bits_deBruijn64tab)], narrowed := true }
def PoolPairsUptoSaid : Prop := poolPairsUptoRow.holds Tryd.pinned (OpenSpec.upto poolPairsSpec)

/-- 'lychgatetop.TopPorts', WHERE WHAT IT READS IS OF BULK AT MOST 1048576: true; the input reads as it did. -/
def topPortsUptoRow : OpenClaim := { program := "ytebhknagnkcldaadoor", sum := "aedde7c9db1b592ee10ab0ccbcbdc6a907a9bbe1b6055dce1bfed8e45ccb817b", func := "lychgate/lychgatetop.TopPorts", spec := "topPorts", unfollowed := true, recurses := true, named := ["math/bits.deBruijn64tab"], apart := false, laid := [("math/bits.deBruijn64tab", laid_math_bits_deBruijn64tab)], narrowed := true }
def TopPortsUptoSaid : Prop := topPortsUptoRow.holds Tryd.pinned (OpenSpec.upto topPortsSpec)

end Rows
end Go.Proofs.YtebhknagnkcldaaDoor
