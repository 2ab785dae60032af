/-
  DERIVED. GIVEN WITH THE SEED: THE CARDS: each row of YtopjpnhgnopbiaaDoorRows.lean that lists a variable, with what it lists TIED to the program's text (the seventh form; the later family's looks); each row that meets fmt, with fmt's text TOLD by the authors' own Lean function (tested against real Go, not proved from fmt's source: count such statements apart). THE CARD IS WHAT COUNTS. Prove the row's statement (the work); the ties are given (YtopjpnhgnopbiaaDoorTie.lean); close each card by the builder's one call (the guide's Derived/Test/ToyasCard.lean, 'card_holds'). Laid BY PROGRAM, IN A SANDBOX (cutbox-door.mjs). By AI agents, Wed Nov 11 2026. No macro, syntax, notation, axiom, sorry.
-/
import Derived.Test.YtopjpnhgnopbiaaDoorRows
import GoSem.ClaimSeven
namespace Go.Proofs.YtopjpnhgnopbiaaDoor
namespace Rows

/-- THE TIED CARD OF 'inlaylaw23.EsiparseKnown'. -/
def esiparseKnownCard : Claim7 := { stood := { row := esiparseKnownRow, standIns := [], harness := (true, "a48f1ee616cede6e25277f962639245b2b1b5a85cb3076c4b97ecbae9dd4acaa"), looks := true }, kinds := [], alts := [], laidByText := true, laidKinds := [.data, .listed, .data, .pinned], laidTests := true, laidLooks := .later }
def EsiparseKnownCardSaid : Prop := Claim7.holds Tryd.pinned (.plain (OpenSpec.ofChange esiparseKnownSpec)) esiparseKnownCard

/-- THE TIED CARD OF 'inlaylaw23.EsiparseParts'. -/
def esiparsePartsCard : Claim7 := { stood := { row := esiparsePartsRow, standIns := [], harness := (true, "a48f1ee616cede6e25277f962639245b2b1b5a85cb3076c4b97ecbae9dd4acaa"), looks := true }, kinds := [], alts := [], laidByText := true, laidKinds := [.data, .listed, .data, .pinned], laidTests := true, laidLooks := .later }
def EsiparsePartsCardSaid : Prop := Claim7.holds Tryd.pinned (.plain (OpenSpec.ofChange esiparsePartsSpec)) esiparsePartsCard

/-- THE TIED CARD OF 'inlaylaw23.EsiparseMay'. -/
def esiparseMayCard : Claim7 := { stood := { row := esiparseMayRow, standIns := [], harness := (true, "a48f1ee616cede6e25277f962639245b2b1b5a85cb3076c4b97ecbae9dd4acaa"), looks := true }, kinds := [], alts := [], laidByText := true, laidKinds := [.data, .listed, .data, .pinned], laidTests := true, laidLooks := .later }
def EsiparseMayCardSaid : Prop := Claim7.holds Tryd.pinned (.plain (OpenSpec.ofChange esiparseMaySpec)) esiparseMayCard

/-- THE SECOND FORM's CARD OF 'inlaylaw23.EsiparseKnown'. -/
def esiparseKnownUptoCard : Claim7 := { stood := { row := esiparseKnownUptoRow, standIns := [], harness := (true, "a48f1ee616cede6e25277f962639245b2b1b5a85cb3076c4b97ecbae9dd4acaa"), looks := true }, kinds := [], alts := [], laidByText := true, laidKinds := [.data, .listed, .data, .pinned], laidTests := true, laidLooks := .later }
def EsiparseKnownUptoCardSaid : Prop := Claim7.holds Tryd.pinned (.plain (OpenSpec.upto esiparseKnownSpec)) esiparseKnownUptoCard

/-- THE SECOND FORM's CARD OF 'inlaylaw23.EsiparseParts'. -/
def esiparsePartsUptoCard : Claim7 := { stood := { row := esiparsePartsUptoRow, standIns := [], harness := (true, "a48f1ee616cede6e25277f962639245b2b1b5a85cb3076c4b97ecbae9dd4acaa"), looks := true }, kinds := [], alts := [], laidByText := true, laidKinds := [.data, .listed, .data, .pinned], laidTests := true, laidLooks := .later }
def EsiparsePartsUptoCardSaid : Prop := Claim7.holds Tryd.pinned (.plain (OpenSpec.upto esiparsePartsSpec)) esiparsePartsUptoCard

/-- THE SECOND FORM's CARD OF 'inlaylaw23.EsiparseMay'. -/
def esiparseMayUptoCard : Claim7 := { stood := { row := esiparseMayUptoRow, standIns := [], harness := (true, "a48f1ee616cede6e25277f962639245b2b1b5a85cb3076c4b97ecbae9dd4acaa"), looks := true }, kinds := [], alts := [], laidByText := true, laidKinds := [.data, .listed, .data, .pinned], laidTests := true, laidLooks := .later }
def EsiparseMayUptoCardSaid : Prop := Claim7.holds Tryd.pinned (.plain (OpenSpec.upto esiparseMaySpec)) esiparseMayUptoCard
end Rows
end Go.Proofs.YtopjpnhgnopbiaaDoor
