/-
  DERIVED. GIVEN WITH THE SEED: THE CARDS: each row of YtgdelmkgdfhdpaaGreatDoorRows.lean that lists a variable, with what it lists TIED to the program's text (the seventh form; the later family's looks); each row that meets fmt, with fmt's text TOLD by the authors' own Lean function (tested against real Go, not proved from fmt's source: count such statements apart). THE CARD IS WHAT COUNTS. Prove the row's statement (the work); the ties are given (YtgdelmkgdfhdpaaGreatDoorTie.lean); close each card by the builder's one call (the guide's Derived/Test/ToyasCard.lean, 'card_holds'). Laid BY PROGRAM, IN A SANDBOX (cutbox-door.mjs). By AI agents, Wed Nov 11 2026. No macro, syntax, notation, axiom, sorry.
-/
import Derived.Test.YtgdelmkgdfhdpaaGreatDoorRows
import GoSem.ClaimSeven
namespace Go.Proofs.YtgdelmkgdfhdpaaGreatDoor
namespace Rows

/-- THE TIED CARD OF 'blotterlaw08.HttpdWrites'. -/
def httpdWritesCard : Claim7 := { stood := { row := httpdWritesRow, standIns := [], harness := (true, "a201dbb515ea7d6243a4f50b223df9f8727a715e2c720e8a03954b5f4557b7e5"), looks := true }, kinds := [], alts := [], laidByText := true, laidKinds := [.data, .data, .data, .data, .sentinel, .sentinel, .pinned], laidTests := true, laidLooks := .later }
def HttpdWritesCardSaid : Prop := Claim7.holds Tryz.pinned (.plain (OpenSpec.ofChange httpdWritesSpec)) httpdWritesCard

/-- THE TIED CARD OF 'blotterlaw08.HttpdReads'. -/
def httpdReadsCard : Claim7 := { stood := { row := httpdReadsRow, standIns := [], harness := (true, "a201dbb515ea7d6243a4f50b223df9f8727a715e2c720e8a03954b5f4557b7e5"), looks := true }, kinds := [], alts := [], laidByText := true, laidKinds := [.data, .data, .data, .data, .sentinel, .sentinel, .pinned], laidTests := true, laidLooks := .later }
def HttpdReadsCardSaid : Prop := Claim7.holds Tryz.pinned (.plain (OpenSpec.ofChange httpdReadsSpec)) httpdReadsCard

/-- THE TIED CARD OF 'blotterlaw08.HttpdBack'. -/
def httpdBackCard : Claim7 := { stood := { row := httpdBackRow, standIns := [], harness := (true, "a201dbb515ea7d6243a4f50b223df9f8727a715e2c720e8a03954b5f4557b7e5"), looks := true }, kinds := [], alts := [], laidByText := true, laidKinds := [.data, .data, .data, .data, .sentinel, .sentinel, .pinned], laidTests := true, laidLooks := .later }
def HttpdBackCardSaid : Prop := Claim7.holds Tryz.pinned (.plain (OpenSpec.ofChange httpdBackSpec)) httpdBackCard

/-- THE SECOND FORM's CARD OF 'blotterlaw08.HttpdWrites'. -/
def httpdWritesUptoCard : Claim7 := { stood := { row := httpdWritesUptoRow, standIns := [], harness := (true, "a201dbb515ea7d6243a4f50b223df9f8727a715e2c720e8a03954b5f4557b7e5"), looks := true }, kinds := [], alts := [], laidByText := true, laidKinds := [.data, .data, .data, .data, .sentinel, .sentinel, .pinned], laidTests := true, laidLooks := .later }
def HttpdWritesUptoCardSaid : Prop := Claim7.holds Tryz.pinned (.plain (OpenSpec.upto httpdWritesSpec)) httpdWritesUptoCard

/-- THE SECOND FORM's CARD OF 'blotterlaw08.HttpdReads'. -/
def httpdReadsUptoCard : Claim7 := { stood := { row := httpdReadsUptoRow, standIns := [], harness := (true, "a201dbb515ea7d6243a4f50b223df9f8727a715e2c720e8a03954b5f4557b7e5"), looks := true }, kinds := [], alts := [], laidByText := true, laidKinds := [.data, .data, .data, .data, .sentinel, .sentinel, .pinned], laidTests := true, laidLooks := .later }
def HttpdReadsUptoCardSaid : Prop := Claim7.holds Tryz.pinned (.plain (OpenSpec.upto httpdReadsSpec)) httpdReadsUptoCard

/-- THE SECOND FORM's CARD OF 'blotterlaw08.HttpdBack'. -/
def httpdBackUptoCard : Claim7 := { stood := { row := httpdBackUptoRow, standIns := [], harness := (true, "a201dbb515ea7d6243a4f50b223df9f8727a715e2c720e8a03954b5f4557b7e5"), looks := true }, kinds := [], alts := [], laidByText := true, laidKinds := [.data, .data, .data, .data, .sentinel, .sentinel, .pinned], laidTests := true, laidLooks := .later }
def HttpdBackUptoCardSaid : Prop := Claim7.holds Tryz.pinned (.plain (OpenSpec.upto httpdBackSpec)) httpdBackUptoCard
end Rows
end Go.Proofs.YtgdelmkgdfhdpaaGreatDoor
