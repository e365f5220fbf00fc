/-
  DERIVED. GIVEN WITH THE SEED: THE CARDS: each row of YtigdjnfnkjfkmaaGreatDoorRows.lean that lists a variable, with what it lists TIED to the program's text (the seventh form; the later family's looks); each row that meets fmt, with fmt's text TOLD by the authors' own Lean function (tested against real Go, not proved from fmt's source: count such statements apart). THE CARD IS WHAT COUNTS. Prove the row's statement (the work); the ties are given (YtigdjnfnkjfkmaaGreatDoorTie.lean); close each card by the builder's one call (the guide's Derived/Test/ToyasCard.lean, 'card_holds'). Laid BY PROGRAM, IN A SANDBOX (cutbox-door.mjs). By AI agents, Wed Nov 11 2026. No macro, syntax, notation, axiom, sorry.
-/
import Derived.Test.YtigdjnfnkjfkmaaGreatDoorRows
import GoSem.ClaimSeven
namespace Go.Proofs.YtigdjnfnkjfkmaaGreatDoor
namespace Rows

/-- THE TIED CARD OF 'blotterlaw13.MsgWrites'. -/
def msgWritesCard : Claim7 := { stood := { row := msgWritesRow, standIns := [], harness := (true, "0000b9ca22dcdc6782e897ca3715cfc77bd003dbf48a53da92a9937fcdea355d"), looks := true }, kinds := [], alts := [], laidByText := true, laidKinds := [.data, .data, .data, .handle, .sentinel, .sentinel], laidTests := true, laidLooks := .later }
def MsgWritesCardSaid : Prop := Claim7.holds Tryz.pinned (.plain (OpenSpec.ofChange msgWritesSpec)) msgWritesCard

/-- THE TIED CARD OF 'blotterlaw13.MsgReads'. -/
def msgReadsCard : Claim7 := { stood := { row := msgReadsRow, standIns := [], harness := (true, "0000b9ca22dcdc6782e897ca3715cfc77bd003dbf48a53da92a9937fcdea355d"), looks := true }, kinds := [], alts := [], laidByText := true, laidKinds := [.data, .data, .data, .handle, .sentinel, .sentinel], laidTests := true, laidLooks := .later }
def MsgReadsCardSaid : Prop := Claim7.holds Tryz.pinned (.plain (OpenSpec.ofChange msgReadsSpec)) msgReadsCard

/-- THE TIED CARD OF 'blotterlaw13.MsgFits'. -/
def msgFitsCard : Claim7 := { stood := { row := msgFitsRow, standIns := [], harness := (true, "0000b9ca22dcdc6782e897ca3715cfc77bd003dbf48a53da92a9937fcdea355d"), looks := true }, kinds := [], alts := [], laidByText := true, laidKinds := [.data, .data, .data, .handle, .sentinel, .sentinel], laidTests := true, laidLooks := .later }
def MsgFitsCardSaid : Prop := Claim7.holds Tryz.pinned (.plain (OpenSpec.ofChange msgFitsSpec)) msgFitsCard

/-- THE TIED CARD OF 'blotterlaw13.MsgPuts'. -/
def msgPutsCard : Claim7 := { stood := { row := msgPutsRow, standIns := [], harness := (true, "0000b9ca22dcdc6782e897ca3715cfc77bd003dbf48a53da92a9937fcdea355d"), looks := true }, kinds := [], alts := [], laidByText := true, laidKinds := [.data, .data, .data, .handle, .sentinel, .sentinel], laidTests := true, laidLooks := .later }
def MsgPutsCardSaid : Prop := Claim7.holds Tryz.pinned (.plain (OpenSpec.ofChange msgPutsSpec)) msgPutsCard

/-- THE TIED CARD OF 'blotterlaw13.MsgBack'. -/
def msgBackCard : Claim7 := { stood := { row := msgBackRow, standIns := [], harness := (true, "0000b9ca22dcdc6782e897ca3715cfc77bd003dbf48a53da92a9937fcdea355d"), looks := true }, kinds := [], alts := [], laidByText := true, laidKinds := [.data, .data, .data, .handle, .sentinel, .sentinel], laidTests := true, laidLooks := .later }
def MsgBackCardSaid : Prop := Claim7.holds Tryz.pinned (.plain (OpenSpec.ofChange msgBackSpec)) msgBackCard

/-- THE TIED CARD OF 'blotterlaw13.MsgOne'. -/
def msgOneCard : Claim7 := { stood := { row := msgOneRow, standIns := [], harness := (true, "0000b9ca22dcdc6782e897ca3715cfc77bd003dbf48a53da92a9937fcdea355d"), looks := true }, kinds := [], alts := [], laidByText := true, laidKinds := [.data, .data, .data, .handle, .sentinel, .sentinel], laidTests := true, laidLooks := .later }
def MsgOneCardSaid : Prop := Claim7.holds Tryz.pinned (.plain (OpenSpec.ofChange msgOneSpec)) msgOneCard

/-- THE SECOND FORM's CARD OF 'blotterlaw13.MsgWrites'. -/
def msgWritesUptoCard : Claim7 := { stood := { row := msgWritesUptoRow, standIns := [], harness := (true, "0000b9ca22dcdc6782e897ca3715cfc77bd003dbf48a53da92a9937fcdea355d"), looks := true }, kinds := [], alts := [], laidByText := true, laidKinds := [.data, .data, .data, .handle, .sentinel, .sentinel], laidTests := true, laidLooks := .later }
def MsgWritesUptoCardSaid : Prop := Claim7.holds Tryz.pinned (.plain (OpenSpec.upto msgWritesSpec)) msgWritesUptoCard

/-- THE SECOND FORM's CARD OF 'blotterlaw13.MsgReads'. -/
def msgReadsUptoCard : Claim7 := { stood := { row := msgReadsUptoRow, standIns := [], harness := (true, "0000b9ca22dcdc6782e897ca3715cfc77bd003dbf48a53da92a9937fcdea355d"), looks := true }, kinds := [], alts := [], laidByText := true, laidKinds := [.data, .data, .data, .handle, .sentinel, .sentinel], laidTests := true, laidLooks := .later }
def MsgReadsUptoCardSaid : Prop := Claim7.holds Tryz.pinned (.plain (OpenSpec.upto msgReadsSpec)) msgReadsUptoCard

/-- THE SECOND FORM's CARD OF 'blotterlaw13.MsgFits'. -/
def msgFitsUptoCard : Claim7 := { stood := { row := msgFitsUptoRow, standIns := [], harness := (true, "0000b9ca22dcdc6782e897ca3715cfc77bd003dbf48a53da92a9937fcdea355d"), looks := true }, kinds := [], alts := [], laidByText := true, laidKinds := [.data, .data, .data, .handle, .sentinel, .sentinel], laidTests := true, laidLooks := .later }
def MsgFitsUptoCardSaid : Prop := Claim7.holds Tryz.pinned (.plain (OpenSpec.upto msgFitsSpec)) msgFitsUptoCard

/-- THE SECOND FORM's CARD OF 'blotterlaw13.MsgPuts'. -/
def msgPutsUptoCard : Claim7 := { stood := { row := msgPutsUptoRow, standIns := [], harness := (true, "0000b9ca22dcdc6782e897ca3715cfc77bd003dbf48a53da92a9937fcdea355d"), looks := true }, kinds := [], alts := [], laidByText := true, laidKinds := [.data, .data, .data, .handle, .sentinel, .sentinel], laidTests := true, laidLooks := .later }
def MsgPutsUptoCardSaid : Prop := Claim7.holds Tryz.pinned (.plain (OpenSpec.upto msgPutsSpec)) msgPutsUptoCard

/-- THE SECOND FORM's CARD OF 'blotterlaw13.MsgBack'. -/
def msgBackUptoCard : Claim7 := { stood := { row := msgBackUptoRow, standIns := [], harness := (true, "0000b9ca22dcdc6782e897ca3715cfc77bd003dbf48a53da92a9937fcdea355d"), looks := true }, kinds := [], alts := [], laidByText := true, laidKinds := [.data, .data, .data, .handle, .sentinel, .sentinel], laidTests := true, laidLooks := .later }
def MsgBackUptoCardSaid : Prop := Claim7.holds Tryz.pinned (.plain (OpenSpec.upto msgBackSpec)) msgBackUptoCard

/-- THE SECOND FORM's CARD OF 'blotterlaw13.MsgOne'. -/
def msgOneUptoCard : Claim7 := { stood := { row := msgOneUptoRow, standIns := [], harness := (true, "0000b9ca22dcdc6782e897ca3715cfc77bd003dbf48a53da92a9937fcdea355d"), looks := true }, kinds := [], alts := [], laidByText := true, laidKinds := [.data, .data, .data, .handle, .sentinel, .sentinel], laidTests := true, laidLooks := .later }
def MsgOneUptoCardSaid : Prop := Claim7.holds Tryz.pinned (.plain (OpenSpec.upto msgOneSpec)) msgOneUptoCard
end Rows
end Go.Proofs.YtigdjnfnkjfkmaaGreatDoor
