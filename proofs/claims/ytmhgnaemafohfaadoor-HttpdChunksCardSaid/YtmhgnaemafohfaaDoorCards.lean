/-
  DERIVED. GIVEN WITH THE SEED: THE CARDS: each row of YtmhgnaemafohfaaDoorRows.lean that lists a variable, with what it lists TIED to the program's text (the seventh form; the later family's looks); each row that meets fmt, with fmt's text TOLD by the authors' own Lean function (tested against real Go, not proved from fmt's source: count such statements apart). THE CARD IS WHAT COUNTS. Prove the row's statement (the work); the ties are given (YtmhgnaemafohfaaDoorTie.lean); close each card by the builder's one call (the guide's Derived/Test/ToyasCard.lean, 'card_holds'). Laid BY PROGRAM, IN A SANDBOX (cutbox-door.mjs). By AI agents, Wed Nov 11 2026. No macro, syntax, notation, axiom, sorry.
-/
import Derived.Test.YtmhgnaemafohfaaDoorRows
import GoSem.ClaimSeven
namespace Go.Proofs.YtmhgnaemafohfaaDoor
namespace Rows

/-- THE TIED CARD OF 'blotterlaw08.HttpdOneOf'. -/
def httpdOneOfCard : Claim7 := { stood := { row := httpdOneOfRow, standIns := [], harness := (true, "9c2b166280905c703830d115ee70d5f9335d837c907c54b0cf722f113742e426"), looks := true }, kinds := [], alts := [], laidByText := true, laidKinds := [.data, .data, .data, .data, .sentinel, .sentinel, .pinned], laidTests := true, laidLooks := .later }
def HttpdOneOfCardSaid : Prop := Claim7.holds Tryd.pinned (.plain (OpenSpec.ofChange httpdOneOfSpec)) httpdOneOfCard

/-- THE TIED CARD OF 'blotterlaw08.HttpdCut'. -/
def httpdCutCard : Claim7 := { stood := { row := httpdCutRow, standIns := [], harness := (true, "9c2b166280905c703830d115ee70d5f9335d837c907c54b0cf722f113742e426"), looks := true }, kinds := [], alts := [], laidByText := true, laidKinds := [.data, .data, .data, .data, .sentinel, .sentinel, .pinned], laidTests := true, laidLooks := .later }
def HttpdCutCardSaid : Prop := Claim7.holds Tryd.pinned (.plain (OpenSpec.ofChange httpdCutSpec)) httpdCutCard

/-- THE TIED CARD OF 'blotterlaw08.HttpdChunks'. -/
def httpdChunksCard : Claim7 := { stood := { row := httpdChunksRow, standIns := [], harness := (true, "9c2b166280905c703830d115ee70d5f9335d837c907c54b0cf722f113742e426"), looks := true }, kinds := [], alts := [], laidByText := true, laidKinds := [.data, .data, .data, .data, .sentinel, .sentinel, .pinned], laidTests := true, laidLooks := .later }
def HttpdChunksCardSaid : Prop := Claim7.holds Tryd.pinned (.plain (OpenSpec.ofChange httpdChunksSpec)) httpdChunksCard

/-- THE SECOND FORM's CARD OF 'blotterlaw08.HttpdOneOf'. -/
def httpdOneOfUptoCard : Claim7 := { stood := { row := httpdOneOfUptoRow, standIns := [], harness := (true, "9c2b166280905c703830d115ee70d5f9335d837c907c54b0cf722f113742e426"), looks := true }, kinds := [], alts := [], laidByText := true, laidKinds := [.data, .data, .data, .data, .sentinel, .sentinel, .pinned], laidTests := true, laidLooks := .later }
def HttpdOneOfUptoCardSaid : Prop := Claim7.holds Tryd.pinned (.plain (OpenSpec.upto httpdOneOfSpec)) httpdOneOfUptoCard

/-- THE SECOND FORM's CARD OF 'blotterlaw08.HttpdCut'. -/
def httpdCutUptoCard : Claim7 := { stood := { row := httpdCutUptoRow, standIns := [], harness := (true, "9c2b166280905c703830d115ee70d5f9335d837c907c54b0cf722f113742e426"), looks := true }, kinds := [], alts := [], laidByText := true, laidKinds := [.data, .data, .data, .data, .sentinel, .sentinel, .pinned], laidTests := true, laidLooks := .later }
def HttpdCutUptoCardSaid : Prop := Claim7.holds Tryd.pinned (.plain (OpenSpec.upto httpdCutSpec)) httpdCutUptoCard

/-- THE SECOND FORM's CARD OF 'blotterlaw08.HttpdChunks'. -/
def httpdChunksUptoCard : Claim7 := { stood := { row := httpdChunksUptoRow, standIns := [], harness := (true, "9c2b166280905c703830d115ee70d5f9335d837c907c54b0cf722f113742e426"), looks := true }, kinds := [], alts := [], laidByText := true, laidKinds := [.data, .data, .data, .data, .sentinel, .sentinel, .pinned], laidTests := true, laidLooks := .later }
def HttpdChunksUptoCardSaid : Prop := Claim7.holds Tryd.pinned (.plain (OpenSpec.upto httpdChunksSpec)) httpdChunksUptoCard
end Rows
end Go.Proofs.YtmhgnaemafohfaaDoor
