/-
  DERIVED. GIVEN WITH THE SEED: THE CARDS: each row of YtphokckbcmiddaaDoorRows.lean that lists a variable, with what it lists TIED to the program's text (the seventh form; the later family's looks); each row that meets fmt, with fmt's text TOLD by the authors' own Lean function (tested against real Go, not proved from fmt's source: count such statements apart). THE CARD IS WHAT COUNTS. Prove the row's statement (the work); the ties are given (YtphokckbcmiddaaDoorTie.lean); close each card by the builder's one call (the guide's Derived/Test/ToyasCard.lean, 'card_holds'). Laid BY PROGRAM, IN A SANDBOX (cutbox-door.mjs). By AI agents, Wed Nov 11 2026. No macro, syntax, notation, axiom, sorry.
-/
import Derived.Test.YtphokckbcmiddaaDoorRows
import GoSem.ClaimSeven
namespace Go.Proofs.YtphokckbcmiddaaDoor
namespace Rows

/-- THE TIED CARD OF 'lychgatelaw13.FtpFinds'. -/
def ftpFindsCard : Claim7 := { stood := { row := ftpFindsRow, standIns := [], harness := (true, "4ba10952c08c32e775ef3f590e241bd8428281255ec3c35ea1019fa5677805e7"), looks := true }, kinds := [], alts := [], laidByText := true, laidKinds := [.data, .data, .data, .data, .sentinel, .sentinel, .pinned], laidTests := true, laidLooks := .later }
def FtpFindsCardSaid : Prop := Claim7.holds Tryd.pinned (.plain (OpenSpec.ofChange ftpFindsSpec)) ftpFindsCard

/-- THE TIED CARD OF 'lychgatelaw13.FtpLines'. -/
def ftpLinesCard : Claim7 := { stood := { row := ftpLinesRow, standIns := [], harness := (true, "4ba10952c08c32e775ef3f590e241bd8428281255ec3c35ea1019fa5677805e7"), looks := true }, kinds := [], alts := [], laidByText := true, laidKinds := [.data, .data, .data, .data, .sentinel, .sentinel, .pinned], laidTests := true, laidLooks := .later }
def FtpLinesCardSaid : Prop := Claim7.holds Tryd.pinned (.plain (OpenSpec.ofChange ftpLinesSpec)) ftpLinesCard

/-- THE TIED CARD OF 'lychgatelaw13.FtpWhole'. -/
def ftpWholeCard : Claim7 := { stood := { row := ftpWholeRow, standIns := [], harness := (true, "4ba10952c08c32e775ef3f590e241bd8428281255ec3c35ea1019fa5677805e7"), looks := true }, kinds := [], alts := [], laidByText := true, laidKinds := [.data, .data, .data, .data, .sentinel, .sentinel, .pinned], laidTests := true, laidLooks := .later }
def FtpWholeCardSaid : Prop := Claim7.holds Tryd.pinned (.plain (OpenSpec.ofChange ftpWholeSpec)) ftpWholeCard

/-- THE TIED CARD OF 'lychgatelaw13.FtpReplaces'. -/
def ftpReplacesCard : Claim7 := { stood := { row := ftpReplacesRow, standIns := [], harness := (true, "4ba10952c08c32e775ef3f590e241bd8428281255ec3c35ea1019fa5677805e7"), looks := true }, kinds := [], alts := [], laidByText := true, laidKinds := [.data, .data, .data, .data, .sentinel, .sentinel, .pinned], laidTests := true, laidLooks := .later }
def FtpReplacesCardSaid : Prop := Claim7.holds Tryd.pinned (.plain (OpenSpec.ofChange ftpReplacesSpec)) ftpReplacesCard

/-- THE TIED CARD OF 'lychgatelaw13.FtpBack'. -/
def ftpBackCard : Claim7 := { stood := { row := ftpBackRow, standIns := [], harness := (true, "4ba10952c08c32e775ef3f590e241bd8428281255ec3c35ea1019fa5677805e7"), looks := true }, kinds := [], alts := [], laidByText := true, laidKinds := [.data, .data, .data, .data, .sentinel, .sentinel, .pinned], laidTests := true, laidLooks := .later }
def FtpBackCardSaid : Prop := Claim7.holds Tryd.pinned (.plain (OpenSpec.ofChange ftpBackSpec)) ftpBackCard

/-- THE TIED CARD OF 'lychgatelaw13.FtpSelf'. -/
def ftpSelfCard : Claim7 := { stood := { row := ftpSelfRow, standIns := [], harness := (true, "4ba10952c08c32e775ef3f590e241bd8428281255ec3c35ea1019fa5677805e7"), looks := true }, kinds := [], alts := [], laidByText := true, laidKinds := [.data, .data, .data, .data, .sentinel, .sentinel, .pinned], laidTests := true, laidLooks := .later }
def FtpSelfCardSaid : Prop := Claim7.holds Tryd.pinned (.plain (OpenSpec.ofChange ftpSelfSpec)) ftpSelfCard

/-- THE TIED CARD OF 'lychgatetop.TopLines'. -/
def topLinesCard : Claim7 := { stood := { row := topLinesRow, standIns := [], harness := (true, "4ba10952c08c32e775ef3f590e241bd8428281255ec3c35ea1019fa5677805e7"), looks := true }, kinds := [], alts := [], laidByText := true, laidKinds := [.data, .data, .data, .data, .sentinel, .sentinel, .pinned], laidTests := true, laidLooks := .later }
def TopLinesCardSaid : Prop := Claim7.holds Tryd.pinned (.plain (OpenSpec.ofChange topLinesSpec)) topLinesCard

/-- THE SECOND FORM's CARD OF 'lychgatelaw13.FtpFinds'. -/
def ftpFindsUptoCard : Claim7 := { stood := { row := ftpFindsUptoRow, standIns := [], harness := (true, "4ba10952c08c32e775ef3f590e241bd8428281255ec3c35ea1019fa5677805e7"), looks := true }, kinds := [], alts := [], laidByText := true, laidKinds := [.data, .data, .data, .data, .sentinel, .sentinel, .pinned], laidTests := true, laidLooks := .later }
def FtpFindsUptoCardSaid : Prop := Claim7.holds Tryd.pinned (.plain (OpenSpec.upto ftpFindsSpec)) ftpFindsUptoCard

/-- THE SECOND FORM's CARD OF 'lychgatelaw13.FtpLines'. -/
def ftpLinesUptoCard : Claim7 := { stood := { row := ftpLinesUptoRow, standIns := [], harness := (true, "4ba10952c08c32e775ef3f590e241bd8428281255ec3c35ea1019fa5677805e7"), looks := true }, kinds := [], alts := [], laidByText := true, laidKinds := [.data, .data, .data, .data, .sentinel, .sentinel, .pinned], laidTests := true, laidLooks := .later }
def FtpLinesUptoCardSaid : Prop := Claim7.holds Tryd.pinned (.plain (OpenSpec.upto ftpLinesSpec)) ftpLinesUptoCard

/-- THE SECOND FORM's CARD OF 'lychgatelaw13.FtpWhole'. -/
def ftpWholeUptoCard : Claim7 := { stood := { row := ftpWholeUptoRow, standIns := [], harness := (true, "4ba10952c08c32e775ef3f590e241bd8428281255ec3c35ea1019fa5677805e7"), looks := true }, kinds := [], alts := [], laidByText := true, laidKinds := [.data, .data, .data, .data, .sentinel, .sentinel, .pinned], laidTests := true, laidLooks := .later }
def FtpWholeUptoCardSaid : Prop := Claim7.holds Tryd.pinned (.plain (OpenSpec.upto ftpWholeSpec)) ftpWholeUptoCard

/-- THE SECOND FORM's CARD OF 'lychgatelaw13.FtpReplaces'. -/
def ftpReplacesUptoCard : Claim7 := { stood := { row := ftpReplacesUptoRow, standIns := [], harness := (true, "4ba10952c08c32e775ef3f590e241bd8428281255ec3c35ea1019fa5677805e7"), looks := true }, kinds := [], alts := [], laidByText := true, laidKinds := [.data, .data, .data, .data, .sentinel, .sentinel, .pinned], laidTests := true, laidLooks := .later }
def FtpReplacesUptoCardSaid : Prop := Claim7.holds Tryd.pinned (.plain (OpenSpec.upto ftpReplacesSpec)) ftpReplacesUptoCard

/-- THE SECOND FORM's CARD OF 'lychgatelaw13.FtpBack'. -/
def ftpBackUptoCard : Claim7 := { stood := { row := ftpBackUptoRow, standIns := [], harness := (true, "4ba10952c08c32e775ef3f590e241bd8428281255ec3c35ea1019fa5677805e7"), looks := true }, kinds := [], alts := [], laidByText := true, laidKinds := [.data, .data, .data, .data, .sentinel, .sentinel, .pinned], laidTests := true, laidLooks := .later }
def FtpBackUptoCardSaid : Prop := Claim7.holds Tryd.pinned (.plain (OpenSpec.upto ftpBackSpec)) ftpBackUptoCard

/-- THE SECOND FORM's CARD OF 'lychgatelaw13.FtpSelf'. -/
def ftpSelfUptoCard : Claim7 := { stood := { row := ftpSelfUptoRow, standIns := [], harness := (true, "4ba10952c08c32e775ef3f590e241bd8428281255ec3c35ea1019fa5677805e7"), looks := true }, kinds := [], alts := [], laidByText := true, laidKinds := [.data, .data, .data, .data, .sentinel, .sentinel, .pinned], laidTests := true, laidLooks := .later }
def FtpSelfUptoCardSaid : Prop := Claim7.holds Tryd.pinned (.plain (OpenSpec.upto ftpSelfSpec)) ftpSelfUptoCard

/-- THE SECOND FORM's CARD OF 'lychgatetop.TopLines'. -/
def topLinesUptoCard : Claim7 := { stood := { row := topLinesUptoRow, standIns := [], harness := (true, "4ba10952c08c32e775ef3f590e241bd8428281255ec3c35ea1019fa5677805e7"), looks := true }, kinds := [], alts := [], laidByText := true, laidKinds := [.data, .data, .data, .data, .sentinel, .sentinel, .pinned], laidTests := true, laidLooks := .later }
def TopLinesUptoCardSaid : Prop := Claim7.holds Tryd.pinned (.plain (OpenSpec.upto topLinesSpec)) topLinesUptoCard
end Rows
end Go.Proofs.YtphokckbcmiddaaDoor
