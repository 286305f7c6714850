/-
  DERIVED. GIVEN WITH THE SEED: THE CARDS: each row of YtebhknagnkcldaaDoorRows.lean that lists a variable, with what it lists TIED to the program's text (the seventh form; the later family's looks); each row that meets fmt, with fmt's text TOLD by the authors' own Lean function (tested against real Go, not proved from fmt's source: count such statements apart). THE CARD IS WHAT COUNTS. Prove the row's statement (the work); the ties are given (YtebhknagnkcldaaDoorTie.lean); close each card by the builder's one call (the guide's Derived/Test/ToyasCard.lean, 'card_holds'). Laid BY PROGRAM, IN A SANDBOX (cutbox-door.mjs). By AI agents, Wed Nov 11 2026. No macro, syntax, notation, axiom, sorry.
-/
import Derived.Test.YtebhknagnkcldaaDoorRows
import GoSem.ClaimSeven
namespace Go.Proofs.YtebhknagnkcldaaDoor
namespace Rows

/-- THE TIED CARD OF 'lychgatelaw08.PoolPlays'. -/
def poolPlaysCard : Claim7 := { stood := { row := poolPlaysRow, standIns := [], harness := (true, "db59c9b6ec00cbc1a2286543b44736f153113ce9d993cdad50d0dd1ebcf42790"), looks := false }, kinds := [], alts := [], laidByText := true, laidKinds := [.data], laidTests := true, laidLooks := .later }
def PoolPlaysCardSaid : Prop := Claim7.holds Tryd.pinned (.plain (OpenSpec.ofChange poolPlaysSpec)) poolPlaysCard

/-- THE TIED CARD OF 'lychgatelaw08.PoolOnce'. -/
def poolOnceCard : Claim7 := { stood := { row := poolOnceRow, standIns := [], harness := (true, "db59c9b6ec00cbc1a2286543b44736f153113ce9d993cdad50d0dd1ebcf42790"), looks := false }, kinds := [], alts := [], laidByText := true, laidKinds := [.data], laidTests := true, laidLooks := .later }
def PoolOnceCardSaid : Prop := Claim7.holds Tryd.pinned (.plain (OpenSpec.ofChange poolOnceSpec)) poolOnceCard

/-- THE TIED CARD OF 'lychgatelaw08.PoolBack'. -/
def poolBackCard : Claim7 := { stood := { row := poolBackRow, standIns := [], harness := (true, "db59c9b6ec00cbc1a2286543b44736f153113ce9d993cdad50d0dd1ebcf42790"), looks := false }, kinds := [], alts := [], laidByText := true, laidKinds := [.data], laidTests := true, laidLooks := .later }
def PoolBackCardSaid : Prop := Claim7.holds Tryd.pinned (.plain (OpenSpec.ofChange poolBackSpec)) poolBackCard

/-- THE TIED CARD OF 'lychgatelaw08.PoolWish'. -/
def poolWishCard : Claim7 := { stood := { row := poolWishRow, standIns := [], harness := (true, "db59c9b6ec00cbc1a2286543b44736f153113ce9d993cdad50d0dd1ebcf42790"), looks := false }, kinds := [], alts := [], laidByText := true, laidKinds := [.data], laidTests := true, laidLooks := .later }
def PoolWishCardSaid : Prop := Claim7.holds Tryd.pinned (.plain (OpenSpec.ofChange poolWishSpec)) poolWishCard

/-- THE TIED CARD OF 'lychgatelaw08.PoolForks'. -/
def poolForksCard : Claim7 := { stood := { row := poolForksRow, standIns := [], harness := (true, "db59c9b6ec00cbc1a2286543b44736f153113ce9d993cdad50d0dd1ebcf42790"), looks := false }, kinds := [], alts := [], laidByText := true, laidKinds := [.data], laidTests := true, laidLooks := .later }
def PoolForksCardSaid : Prop := Claim7.holds Tryd.pinned (.plain (OpenSpec.ofChange poolForksSpec)) poolForksCard

/-- THE TIED CARD OF 'lychgatelaw08.PoolNone'. -/
def poolNoneCard : Claim7 := { stood := { row := poolNoneRow, standIns := [], harness := (true, "db59c9b6ec00cbc1a2286543b44736f153113ce9d993cdad50d0dd1ebcf42790"), looks := false }, kinds := [], alts := [], laidByText := true, laidKinds := [.data], laidTests := true, laidLooks := .later }
def PoolNoneCardSaid : Prop := Claim7.holds Tryd.pinned (.plain (OpenSpec.ofChange poolNoneSpec)) poolNoneCard

/-- THE TIED CARD OF 'lychgatelaw08.PoolPairs'. -/
def poolPairsCard : Claim7 := { stood := { row := poolPairsRow, standIns := [], harness := (true, "db59c9b6ec00cbc1a2286543b44736f153113ce9d993cdad50d0dd1ebcf42790"), looks := false }, kinds := [], alts := [], laidByText := true, laidKinds := [.data], laidTests := true, laidLooks := .later }
def PoolPairsCardSaid : Prop := Claim7.holds Tryd.pinned (.plain (OpenSpec.ofChange poolPairsSpec)) poolPairsCard

/-- THE TIED CARD OF 'lychgatetop.TopPorts'. -/
def topPortsCard : Claim7 := { stood := { row := topPortsRow, standIns := [], harness := (true, "db59c9b6ec00cbc1a2286543b44736f153113ce9d993cdad50d0dd1ebcf42790"), looks := false }, kinds := [], alts := [], laidByText := true, laidKinds := [.data], laidTests := true, laidLooks := .later }
def TopPortsCardSaid : Prop := Claim7.holds Tryd.pinned (.plain (OpenSpec.ofChange topPortsSpec)) topPortsCard

/-- THE SECOND FORM's CARD OF 'lychgatelaw08.PoolPlays'. -/
def poolPlaysUptoCard : Claim7 := { stood := { row := poolPlaysUptoRow, standIns := [], harness := (true, "db59c9b6ec00cbc1a2286543b44736f153113ce9d993cdad50d0dd1ebcf42790"), looks := false }, kinds := [], alts := [], laidByText := true, laidKinds := [.data], laidTests := true, laidLooks := .later }
def PoolPlaysUptoCardSaid : Prop := Claim7.holds Tryd.pinned (.plain (OpenSpec.upto poolPlaysSpec)) poolPlaysUptoCard

/-- THE SECOND FORM's CARD OF 'lychgatelaw08.PoolOnce'. -/
def poolOnceUptoCard : Claim7 := { stood := { row := poolOnceUptoRow, standIns := [], harness := (true, "db59c9b6ec00cbc1a2286543b44736f153113ce9d993cdad50d0dd1ebcf42790"), looks := false }, kinds := [], alts := [], laidByText := true, laidKinds := [.data], laidTests := true, laidLooks := .later }
def PoolOnceUptoCardSaid : Prop := Claim7.holds Tryd.pinned (.plain (OpenSpec.upto poolOnceSpec)) poolOnceUptoCard

/-- THE SECOND FORM's CARD OF 'lychgatelaw08.PoolBack'. -/
def poolBackUptoCard : Claim7 := { stood := { row := poolBackUptoRow, standIns := [], harness := (true, "db59c9b6ec00cbc1a2286543b44736f153113ce9d993cdad50d0dd1ebcf42790"), looks := false }, kinds := [], alts := [], laidByText := true, laidKinds := [.data], laidTests := true, laidLooks := .later }
def PoolBackUptoCardSaid : Prop := Claim7.holds Tryd.pinned (.plain (OpenSpec.upto poolBackSpec)) poolBackUptoCard

/-- THE SECOND FORM's CARD OF 'lychgatelaw08.PoolWish'. -/
def poolWishUptoCard : Claim7 := { stood := { row := poolWishUptoRow, standIns := [], harness := (true, "db59c9b6ec00cbc1a2286543b44736f153113ce9d993cdad50d0dd1ebcf42790"), looks := false }, kinds := [], alts := [], laidByText := true, laidKinds := [.data], laidTests := true, laidLooks := .later }
def PoolWishUptoCardSaid : Prop := Claim7.holds Tryd.pinned (.plain (OpenSpec.upto poolWishSpec)) poolWishUptoCard

/-- THE SECOND FORM's CARD OF 'lychgatelaw08.PoolForks'. -/
def poolForksUptoCard : Claim7 := { stood := { row := poolForksUptoRow, standIns := [], harness := (true, "db59c9b6ec00cbc1a2286543b44736f153113ce9d993cdad50d0dd1ebcf42790"), looks := false }, kinds := [], alts := [], laidByText := true, laidKinds := [.data], laidTests := true, laidLooks := .later }
def PoolForksUptoCardSaid : Prop := Claim7.holds Tryd.pinned (.plain (OpenSpec.upto poolForksSpec)) poolForksUptoCard

/-- THE SECOND FORM's CARD OF 'lychgatelaw08.PoolNone'. -/
def poolNoneUptoCard : Claim7 := { stood := { row := poolNoneUptoRow, standIns := [], harness := (true, "db59c9b6ec00cbc1a2286543b44736f153113ce9d993cdad50d0dd1ebcf42790"), looks := false }, kinds := [], alts := [], laidByText := true, laidKinds := [.data], laidTests := true, laidLooks := .later }
def PoolNoneUptoCardSaid : Prop := Claim7.holds Tryd.pinned (.plain (OpenSpec.upto poolNoneSpec)) poolNoneUptoCard

/-- THE SECOND FORM's CARD OF 'lychgatelaw08.PoolPairs'. -/
def poolPairsUptoCard : Claim7 := { stood := { row := poolPairsUptoRow, standIns := [], harness := (true, "db59c9b6ec00cbc1a2286543b44736f153113ce9d993cdad50d0dd1ebcf42790"), looks := false }, kinds := [], alts := [], laidByText := true, laidKinds := [.data], laidTests := true, laidLooks := .later }
def PoolPairsUptoCardSaid : Prop := Claim7.holds Tryd.pinned (.plain (OpenSpec.upto poolPairsSpec)) poolPairsUptoCard

/-- THE SECOND FORM's CARD OF 'lychgatetop.TopPorts'. -/
def topPortsUptoCard : Claim7 := { stood := { row := topPortsUptoRow, standIns := [], harness := (true, "db59c9b6ec00cbc1a2286543b44736f153113ce9d993cdad50d0dd1ebcf42790"), looks := false }, kinds := [], alts := [], laidByText := true, laidKinds := [.data], laidTests := true, laidLooks := .later }
def TopPortsUptoCardSaid : Prop := Claim7.holds Tryd.pinned (.plain (OpenSpec.upto topPortsSpec)) topPortsUptoCard
end Rows
end Go.Proofs.YtebhknagnkcldaaDoor
