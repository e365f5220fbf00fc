/-
  DERIVED. GIVEN WITH THE SEED: THE CARDS: each row of YtmhgnaemafohfaaGreatDoorRows.lean that lists a variable, with what it lists TIED to the program's text (the seventh form; the later family's looks); each row that meets fmt, with fmt's text TOLD by the authors' own Lean function (tested against real Go, not proved from fmt's source: count such statements apart). THE CARD IS WHAT COUNTS. Prove the row's statement (the work); the ties are given (YtmhgnaemafohfaaGreatDoorTie.lean); close each card by the builder's one call (the guide's Derived/Test/ToyasCard.lean, 'card_holds'). Laid BY PROGRAM, IN A SANDBOX (cutbox-door.mjs). By AI agents, Wed Nov 11 2026. No macro, syntax, notation, axiom, sorry.
-/
import Derived.Test.YtmhgnaemafohfaaGreatDoorRows
import GoSem.ClaimSeven
namespace Go.Proofs.YtmhgnaemafohfaaGreatDoor
namespace Rows

/-- THE TIED CARD OF 'blotterlaw08.HttpdParses'. -/
def httpdParsesCard : Claim7 := { stood := { row := httpdParsesRow, standIns := [], harness := (true, "22d9f4295d6370dac3cf3d68cd6be127cd7f48f6d521e0ec48bf7bcff83cf93e"), looks := true }, kinds := [], alts := [], laidByText := true, laidKinds := [.data, .data, .data, .data, .sentinel, .sentinel, .pinned], laidTests := true, laidLooks := .later }
def HttpdParsesCardSaid : Prop := Claim7.holds Tryz.pinned (.plain (OpenSpec.ofChange httpdParsesSpec)) httpdParsesCard

/-- THE TIED CARD OF 'blotterlaw08.HttpdPrinted'. -/
def httpdPrintedCard : Claim7 := { stood := { row := httpdPrintedRow, standIns := [], harness := (true, "22d9f4295d6370dac3cf3d68cd6be127cd7f48f6d521e0ec48bf7bcff83cf93e"), looks := true }, kinds := [], alts := [], laidByText := true, laidKinds := [.data, .data, .data, .data, .sentinel, .sentinel, .pinned], laidTests := true, laidLooks := .later }
def HttpdPrintedCardSaid : Prop := Claim7.holds Tryz.pinned (.plain (OpenSpec.ofChange httpdPrintedSpec)) httpdPrintedCard

/-- THE TIED CARD OF 'blotterlaw08.HttpdPieces'. -/
def httpdPiecesCard : Claim7 := { stood := { row := httpdPiecesRow, standIns := [], harness := (true, "22d9f4295d6370dac3cf3d68cd6be127cd7f48f6d521e0ec48bf7bcff83cf93e"), looks := true }, kinds := [], alts := [], laidByText := true, laidKinds := [.data, .data, .data, .data, .sentinel, .sentinel, .pinned], laidTests := true, laidLooks := .later }
def HttpdPiecesCardSaid : Prop := Claim7.holds Tryz.pinned (.plain (OpenSpec.ofChange httpdPiecesSpec)) httpdPiecesCard

/-- THE TIED CARD OF 'blotterlaw08.HttpdNobody'. -/
def httpdNobodyCard : Claim7 := { stood := { row := httpdNobodyRow, standIns := [], harness := (true, "22d9f4295d6370dac3cf3d68cd6be127cd7f48f6d521e0ec48bf7bcff83cf93e"), looks := true }, kinds := [], alts := [], laidByText := true, laidKinds := [.data, .data, .data, .data, .sentinel, .sentinel, .pinned], laidTests := true, laidLooks := .later }
def HttpdNobodyCardSaid : Prop := Claim7.holds Tryz.pinned (.plain (OpenSpec.ofChange httpdNobodySpec)) httpdNobodyCard

/-- THE TIED CARD OF 'blotterlaw08.HttpdFeeds'. -/
def httpdFeedsCard : Claim7 := { stood := { row := httpdFeedsRow, standIns := [], harness := (true, "22d9f4295d6370dac3cf3d68cd6be127cd7f48f6d521e0ec48bf7bcff83cf93e"), looks := true }, kinds := [], alts := [], laidByText := true, laidKinds := [.data, .data, .data, .data, .sentinel, .sentinel, .pinned], laidTests := true, laidLooks := .later }
def HttpdFeedsCardSaid : Prop := Claim7.holds Tryz.pinned (.plain (OpenSpec.ofChange httpdFeedsSpec)) httpdFeedsCard

/-- THE TIED CARD OF 'blotterlaw08.HttpdWrites'. -/
def httpdWritesCard : Claim7 := { stood := { row := httpdWritesRow, standIns := [], harness := (true, "22d9f4295d6370dac3cf3d68cd6be127cd7f48f6d521e0ec48bf7bcff83cf93e"), looks := true }, kinds := [], alts := [], laidByText := true, laidKinds := [.data, .data, .data, .data, .sentinel, .sentinel, .pinned], laidTests := true, laidLooks := .later }
def HttpdWritesCardSaid : Prop := Claim7.holds Tryz.pinned (.plain (OpenSpec.ofChange httpdWritesSpec)) httpdWritesCard

/-- THE TIED CARD OF 'blotterlaw08.HttpdCase'. -/
def httpdCaseCard : Claim7 := { stood := { row := httpdCaseRow, standIns := [], harness := (true, "22d9f4295d6370dac3cf3d68cd6be127cd7f48f6d521e0ec48bf7bcff83cf93e"), looks := true }, kinds := [], alts := [], laidByText := true, laidKinds := [.data, .data, .data, .data, .sentinel, .sentinel, .pinned], laidTests := true, laidLooks := .later }
def HttpdCaseCardSaid : Prop := Claim7.holds Tryz.pinned (.plain (OpenSpec.ofChange httpdCaseSpec)) httpdCaseCard

/-- THE TIED CARD OF 'blotterlaw08.HttpdReads'. -/
def httpdReadsCard : Claim7 := { stood := { row := httpdReadsRow, standIns := [], harness := (true, "22d9f4295d6370dac3cf3d68cd6be127cd7f48f6d521e0ec48bf7bcff83cf93e"), looks := true }, kinds := [], alts := [], laidByText := true, laidKinds := [.data, .data, .data, .data, .sentinel, .sentinel, .pinned], laidTests := true, laidLooks := .later }
def HttpdReadsCardSaid : Prop := Claim7.holds Tryz.pinned (.plain (OpenSpec.ofChange httpdReadsSpec)) httpdReadsCard

/-- THE TIED CARD OF 'blotterlaw08.HttpdBack'. -/
def httpdBackCard : Claim7 := { stood := { row := httpdBackRow, standIns := [], harness := (true, "22d9f4295d6370dac3cf3d68cd6be127cd7f48f6d521e0ec48bf7bcff83cf93e"), looks := true }, kinds := [], alts := [], laidByText := true, laidKinds := [.data, .data, .data, .data, .sentinel, .sentinel, .pinned], laidTests := true, laidLooks := .later }
def HttpdBackCardSaid : Prop := Claim7.holds Tryz.pinned (.plain (OpenSpec.ofChange httpdBackSpec)) httpdBackCard

/-- THE SECOND FORM's CARD OF 'blotterlaw08.HttpdParses'. -/
def httpdParsesUptoCard : Claim7 := { stood := { row := httpdParsesUptoRow, standIns := [], harness := (true, "22d9f4295d6370dac3cf3d68cd6be127cd7f48f6d521e0ec48bf7bcff83cf93e"), looks := true }, kinds := [], alts := [], laidByText := true, laidKinds := [.data, .data, .data, .data, .sentinel, .sentinel, .pinned], laidTests := true, laidLooks := .later }
def HttpdParsesUptoCardSaid : Prop := Claim7.holds Tryz.pinned (.plain (OpenSpec.upto httpdParsesSpec)) httpdParsesUptoCard

/-- THE SECOND FORM's CARD OF 'blotterlaw08.HttpdPrinted'. -/
def httpdPrintedUptoCard : Claim7 := { stood := { row := httpdPrintedUptoRow, standIns := [], harness := (true, "22d9f4295d6370dac3cf3d68cd6be127cd7f48f6d521e0ec48bf7bcff83cf93e"), looks := true }, kinds := [], alts := [], laidByText := true, laidKinds := [.data, .data, .data, .data, .sentinel, .sentinel, .pinned], laidTests := true, laidLooks := .later }
def HttpdPrintedUptoCardSaid : Prop := Claim7.holds Tryz.pinned (.plain (OpenSpec.upto httpdPrintedSpec)) httpdPrintedUptoCard

/-- THE SECOND FORM's CARD OF 'blotterlaw08.HttpdPieces'. -/
def httpdPiecesUptoCard : Claim7 := { stood := { row := httpdPiecesUptoRow, standIns := [], harness := (true, "22d9f4295d6370dac3cf3d68cd6be127cd7f48f6d521e0ec48bf7bcff83cf93e"), looks := true }, kinds := [], alts := [], laidByText := true, laidKinds := [.data, .data, .data, .data, .sentinel, .sentinel, .pinned], laidTests := true, laidLooks := .later }
def HttpdPiecesUptoCardSaid : Prop := Claim7.holds Tryz.pinned (.plain (OpenSpec.upto httpdPiecesSpec)) httpdPiecesUptoCard

/-- THE SECOND FORM's CARD OF 'blotterlaw08.HttpdNobody'. -/
def httpdNobodyUptoCard : Claim7 := { stood := { row := httpdNobodyUptoRow, standIns := [], harness := (true, "22d9f4295d6370dac3cf3d68cd6be127cd7f48f6d521e0ec48bf7bcff83cf93e"), looks := true }, kinds := [], alts := [], laidByText := true, laidKinds := [.data, .data, .data, .data, .sentinel, .sentinel, .pinned], laidTests := true, laidLooks := .later }
def HttpdNobodyUptoCardSaid : Prop := Claim7.holds Tryz.pinned (.plain (OpenSpec.upto httpdNobodySpec)) httpdNobodyUptoCard

/-- THE SECOND FORM's CARD OF 'blotterlaw08.HttpdFeeds'. -/
def httpdFeedsUptoCard : Claim7 := { stood := { row := httpdFeedsUptoRow, standIns := [], harness := (true, "22d9f4295d6370dac3cf3d68cd6be127cd7f48f6d521e0ec48bf7bcff83cf93e"), looks := true }, kinds := [], alts := [], laidByText := true, laidKinds := [.data, .data, .data, .data, .sentinel, .sentinel, .pinned], laidTests := true, laidLooks := .later }
def HttpdFeedsUptoCardSaid : Prop := Claim7.holds Tryz.pinned (.plain (OpenSpec.upto httpdFeedsSpec)) httpdFeedsUptoCard

/-- THE SECOND FORM's CARD OF 'blotterlaw08.HttpdWrites'. -/
def httpdWritesUptoCard : Claim7 := { stood := { row := httpdWritesUptoRow, standIns := [], harness := (true, "22d9f4295d6370dac3cf3d68cd6be127cd7f48f6d521e0ec48bf7bcff83cf93e"), looks := true }, kinds := [], alts := [], laidByText := true, laidKinds := [.data, .data, .data, .data, .sentinel, .sentinel, .pinned], laidTests := true, laidLooks := .later }
def HttpdWritesUptoCardSaid : Prop := Claim7.holds Tryz.pinned (.plain (OpenSpec.upto httpdWritesSpec)) httpdWritesUptoCard

/-- THE SECOND FORM's CARD OF 'blotterlaw08.HttpdCase'. -/
def httpdCaseUptoCard : Claim7 := { stood := { row := httpdCaseUptoRow, standIns := [], harness := (true, "22d9f4295d6370dac3cf3d68cd6be127cd7f48f6d521e0ec48bf7bcff83cf93e"), looks := true }, kinds := [], alts := [], laidByText := true, laidKinds := [.data, .data, .data, .data, .sentinel, .sentinel, .pinned], laidTests := true, laidLooks := .later }
def HttpdCaseUptoCardSaid : Prop := Claim7.holds Tryz.pinned (.plain (OpenSpec.upto httpdCaseSpec)) httpdCaseUptoCard

/-- THE SECOND FORM's CARD OF 'blotterlaw08.HttpdReads'. -/
def httpdReadsUptoCard : Claim7 := { stood := { row := httpdReadsUptoRow, standIns := [], harness := (true, "22d9f4295d6370dac3cf3d68cd6be127cd7f48f6d521e0ec48bf7bcff83cf93e"), looks := true }, kinds := [], alts := [], laidByText := true, laidKinds := [.data, .data, .data, .data, .sentinel, .sentinel, .pinned], laidTests := true, laidLooks := .later }
def HttpdReadsUptoCardSaid : Prop := Claim7.holds Tryz.pinned (.plain (OpenSpec.upto httpdReadsSpec)) httpdReadsUptoCard

/-- THE SECOND FORM's CARD OF 'blotterlaw08.HttpdBack'. -/
def httpdBackUptoCard : Claim7 := { stood := { row := httpdBackUptoRow, standIns := [], harness := (true, "22d9f4295d6370dac3cf3d68cd6be127cd7f48f6d521e0ec48bf7bcff83cf93e"), looks := true }, kinds := [], alts := [], laidByText := true, laidKinds := [.data, .data, .data, .data, .sentinel, .sentinel, .pinned], laidTests := true, laidLooks := .later }
def HttpdBackUptoCardSaid : Prop := Claim7.holds Tryz.pinned (.plain (OpenSpec.upto httpdBackSpec)) httpdBackUptoCard
end Rows
end Go.Proofs.YtmhgnaemafohfaaGreatDoor
