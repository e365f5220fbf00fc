/-
  DERIVED. GIVEN WITH THE SEED: THE CARDS: each row of YthkpbgpgcpkiiaaGreatDoorRows.lean that lists a variable, with what it lists TIED to the program's text (the seventh form; the later family's looks); each row that meets fmt, with fmt's text TOLD by the authors' own Lean function (tested against real Go, not proved from fmt's source: count such statements apart). THE CARD IS WHAT COUNTS. Prove the row's statement (the work); the ties are given (YthkpbgpgcpkiiaaGreatDoorTie.lean); close each card by the builder's one call (the guide's Derived/Test/ToyasCard.lean, 'card_holds'). Laid BY PROGRAM, IN A SANDBOX (cutbox-door.mjs). By AI agents, Wed Nov 11 2026. No macro, syntax, notation, axiom, sorry.
-/
import Derived.Test.YthkpbgpgcpkiiaaGreatDoorRows
import GoSem.ClaimSeven
namespace Go.Proofs.YthkpbgpgcpkiiaaGreatDoor
namespace Rows

/-- THE TIED CARD OF 'blotterlaw04.JsonxPrints'. -/
def jsonxPrintsCard : Claim7 := { stood := { row := jsonxPrintsRow, standIns := [], harness := (true, "d283e9369b10c8edd9e62223908acb7f9f1464298a9a6a724c9ee8be1ffddcec"), looks := true }, kinds := [], alts := [], laidByText := true, laidKinds := [.data, .data, .data, .handle, .sentinel, .sentinel], laidTests := true, laidLooks := .later }
def JsonxPrintsCardSaid : Prop := Claim7.holds Tryz.pinned (.plain (OpenSpec.ofChange jsonxPrintsSpec)) jsonxPrintsCard

/-- THE TIED CARD OF 'blotterlaw04.JsonxBlanks'. -/
def jsonxBlanksCard : Claim7 := { stood := { row := jsonxBlanksRow, standIns := [], harness := (true, "d283e9369b10c8edd9e62223908acb7f9f1464298a9a6a724c9ee8be1ffddcec"), looks := true }, kinds := [], alts := [], laidByText := true, laidKinds := [.data, .data, .data, .handle, .sentinel, .sentinel], laidTests := true, laidLooks := .later }
def JsonxBlanksCardSaid : Prop := Claim7.holds Tryz.pinned (.plain (OpenSpec.ofChange jsonxBlanksSpec)) jsonxBlanksCard

/-- THE TIED CARD OF 'blotterlaw04.JsonxCut'. -/
def jsonxCutCard : Claim7 := { stood := { row := jsonxCutRow, standIns := [], harness := (true, "d283e9369b10c8edd9e62223908acb7f9f1464298a9a6a724c9ee8be1ffddcec"), looks := true }, kinds := [], alts := [], laidByText := true, laidKinds := [.data, .data, .data, .handle, .sentinel, .sentinel], laidTests := true, laidLooks := .later }
def JsonxCutCardSaid : Prop := Claim7.holds Tryz.pinned (.plain (OpenSpec.ofChange jsonxCutSpec)) jsonxCutCard

/-- THE TIED CARD OF 'blotterlaw04.JsonxDeep'. -/
def jsonxDeepCard : Claim7 := { stood := { row := jsonxDeepRow, standIns := [], harness := (true, "d283e9369b10c8edd9e62223908acb7f9f1464298a9a6a724c9ee8be1ffddcec"), looks := true }, kinds := [], alts := [], laidByText := true, laidKinds := [.data, .data, .data, .handle, .sentinel, .sentinel], laidTests := true, laidLooks := .later }
def JsonxDeepCardSaid : Prop := Claim7.holds Tryz.pinned (.plain (OpenSpec.ofChange jsonxDeepSpec)) jsonxDeepCard

/-- THE TIED CARD OF 'blotterlaw04.JsonxBack'. -/
def jsonxBackCard : Claim7 := { stood := { row := jsonxBackRow, standIns := [], harness := (true, "d283e9369b10c8edd9e62223908acb7f9f1464298a9a6a724c9ee8be1ffddcec"), looks := true }, kinds := [], alts := [], laidByText := true, laidKinds := [.data, .data, .data, .handle, .sentinel, .sentinel], laidTests := true, laidLooks := .later }
def JsonxBackCardSaid : Prop := Claim7.holds Tryz.pinned (.plain (OpenSpec.ofChange jsonxBackSpec)) jsonxBackCard

/-- THE TIED CARD OF 'blotterlaw04.JsonxOne'. -/
def jsonxOneCard : Claim7 := { stood := { row := jsonxOneRow, standIns := [], harness := (true, "d283e9369b10c8edd9e62223908acb7f9f1464298a9a6a724c9ee8be1ffddcec"), looks := true }, kinds := [], alts := [], laidByText := true, laidKinds := [.data, .data, .data, .handle, .sentinel, .sentinel], laidTests := true, laidLooks := .later }
def JsonxOneCardSaid : Prop := Claim7.holds Tryz.pinned (.plain (OpenSpec.ofChange jsonxOneSpec)) jsonxOneCard

/-- THE TIED CARD OF 'blotterlaw04.JsonxOrder'. -/
def jsonxOrderCard : Claim7 := { stood := { row := jsonxOrderRow, standIns := [], harness := (true, "d283e9369b10c8edd9e62223908acb7f9f1464298a9a6a724c9ee8be1ffddcec"), looks := true }, kinds := [], alts := [], laidByText := true, laidKinds := [.data, .data, .data, .handle, .sentinel, .sentinel], laidTests := true, laidLooks := .later }
def JsonxOrderCardSaid : Prop := Claim7.holds Tryz.pinned (.plain (OpenSpec.ofChange jsonxOrderSpec)) jsonxOrderCard

/-- THE SECOND FORM's CARD OF 'blotterlaw04.JsonxPrints'. -/
def jsonxPrintsUptoCard : Claim7 := { stood := { row := jsonxPrintsUptoRow, standIns := [], harness := (true, "d283e9369b10c8edd9e62223908acb7f9f1464298a9a6a724c9ee8be1ffddcec"), looks := true }, kinds := [], alts := [], laidByText := true, laidKinds := [.data, .data, .data, .handle, .sentinel, .sentinel], laidTests := true, laidLooks := .later }
def JsonxPrintsUptoCardSaid : Prop := Claim7.holds Tryz.pinned (.plain (OpenSpec.upto jsonxPrintsSpec)) jsonxPrintsUptoCard

/-- THE SECOND FORM's CARD OF 'blotterlaw04.JsonxBlanks'. -/
def jsonxBlanksUptoCard : Claim7 := { stood := { row := jsonxBlanksUptoRow, standIns := [], harness := (true, "d283e9369b10c8edd9e62223908acb7f9f1464298a9a6a724c9ee8be1ffddcec"), looks := true }, kinds := [], alts := [], laidByText := true, laidKinds := [.data, .data, .data, .handle, .sentinel, .sentinel], laidTests := true, laidLooks := .later }
def JsonxBlanksUptoCardSaid : Prop := Claim7.holds Tryz.pinned (.plain (OpenSpec.upto jsonxBlanksSpec)) jsonxBlanksUptoCard

/-- THE SECOND FORM's CARD OF 'blotterlaw04.JsonxCut'. -/
def jsonxCutUptoCard : Claim7 := { stood := { row := jsonxCutUptoRow, standIns := [], harness := (true, "d283e9369b10c8edd9e62223908acb7f9f1464298a9a6a724c9ee8be1ffddcec"), looks := true }, kinds := [], alts := [], laidByText := true, laidKinds := [.data, .data, .data, .handle, .sentinel, .sentinel], laidTests := true, laidLooks := .later }
def JsonxCutUptoCardSaid : Prop := Claim7.holds Tryz.pinned (.plain (OpenSpec.upto jsonxCutSpec)) jsonxCutUptoCard

/-- THE SECOND FORM's CARD OF 'blotterlaw04.JsonxDeep'. -/
def jsonxDeepUptoCard : Claim7 := { stood := { row := jsonxDeepUptoRow, standIns := [], harness := (true, "d283e9369b10c8edd9e62223908acb7f9f1464298a9a6a724c9ee8be1ffddcec"), looks := true }, kinds := [], alts := [], laidByText := true, laidKinds := [.data, .data, .data, .handle, .sentinel, .sentinel], laidTests := true, laidLooks := .later }
def JsonxDeepUptoCardSaid : Prop := Claim7.holds Tryz.pinned (.plain (OpenSpec.upto jsonxDeepSpec)) jsonxDeepUptoCard

/-- THE SECOND FORM's CARD OF 'blotterlaw04.JsonxBack'. -/
def jsonxBackUptoCard : Claim7 := { stood := { row := jsonxBackUptoRow, standIns := [], harness := (true, "d283e9369b10c8edd9e62223908acb7f9f1464298a9a6a724c9ee8be1ffddcec"), looks := true }, kinds := [], alts := [], laidByText := true, laidKinds := [.data, .data, .data, .handle, .sentinel, .sentinel], laidTests := true, laidLooks := .later }
def JsonxBackUptoCardSaid : Prop := Claim7.holds Tryz.pinned (.plain (OpenSpec.upto jsonxBackSpec)) jsonxBackUptoCard

/-- THE SECOND FORM's CARD OF 'blotterlaw04.JsonxOne'. -/
def jsonxOneUptoCard : Claim7 := { stood := { row := jsonxOneUptoRow, standIns := [], harness := (true, "d283e9369b10c8edd9e62223908acb7f9f1464298a9a6a724c9ee8be1ffddcec"), looks := true }, kinds := [], alts := [], laidByText := true, laidKinds := [.data, .data, .data, .handle, .sentinel, .sentinel], laidTests := true, laidLooks := .later }
def JsonxOneUptoCardSaid : Prop := Claim7.holds Tryz.pinned (.plain (OpenSpec.upto jsonxOneSpec)) jsonxOneUptoCard

/-- THE SECOND FORM's CARD OF 'blotterlaw04.JsonxOrder'. -/
def jsonxOrderUptoCard : Claim7 := { stood := { row := jsonxOrderUptoRow, standIns := [], harness := (true, "d283e9369b10c8edd9e62223908acb7f9f1464298a9a6a724c9ee8be1ffddcec"), looks := true }, kinds := [], alts := [], laidByText := true, laidKinds := [.data, .data, .data, .handle, .sentinel, .sentinel], laidTests := true, laidLooks := .later }
def JsonxOrderUptoCardSaid : Prop := Claim7.holds Tryz.pinned (.plain (OpenSpec.upto jsonxOrderSpec)) jsonxOrderUptoCard
end Rows
end Go.Proofs.YthkpbgpgcpkiiaaGreatDoor
