/-
  DERIVED. GIVEN WITH THE SEED: THE CARDS: each row of YtopjpnhgnopbiaaGreatDoorRows.lean that lists a variable, with what it lists TIED to the program's text (the seventh form; the later family's looks); each row that meets fmt, with fmt's text TOLD by the authors' own Lean function (tested against real Go, not proved from fmt's source: count such statements apart). THE CARD IS WHAT COUNTS. Prove the row's statement (the work); the ties are given (YtopjpnhgnopbiaaGreatDoorTie.lean); close each card by the builder's one call (the guide's Derived/Test/ToyasCard.lean, 'card_holds'). Laid BY PROGRAM, IN A SANDBOX (cutbox-door.mjs). By AI agents, Wed Nov 11 2026. No macro, syntax, notation, axiom, sorry.
-/
import Derived.Test.YtopjpnhgnopbiaaGreatDoorRows
import GoSem.ClaimSeven
namespace Go.Proofs.YtopjpnhgnopbiaaGreatDoor
namespace Rows

/-- THE TIED CARD OF 'inlaylaw23.EsiparseTrees'. -/
def esiparseTreesCard : Claim7 := { stood := { row := esiparseTreesRow, standIns := [], harness := (true, "caf9fef4e4f2926cc3be94c1365762021352a6382cb10c773073b3aeef7bb755"), looks := true }, kinds := [], alts := [], laidByText := true, laidKinds := [.data, .listed, .data, .pinned], laidTests := true, laidLooks := .later }
def EsiparseTreesCardSaid : Prop := Claim7.holds Tryz.pinned (.plain (OpenSpec.ofChange esiparseTreesSpec)) esiparseTreesCard

/-- THE TIED CARD OF 'inlaylaw23.EsiparseLong'. -/
def esiparseLongCard : Claim7 := { stood := { row := esiparseLongRow, standIns := [], harness := (true, "caf9fef4e4f2926cc3be94c1365762021352a6382cb10c773073b3aeef7bb755"), looks := true }, kinds := [], alts := [], laidByText := true, laidKinds := [.data, .listed, .data, .pinned], laidTests := true, laidLooks := .later }
def EsiparseLongCardSaid : Prop := Claim7.holds Tryz.pinned (.plain (OpenSpec.ofChange esiparseLongSpec)) esiparseLongCard

/-- THE TIED CARD OF 'inlaylaw24.PrintBack'. -/
def printBackCard : Claim7 := { stood := { row := printBackRow, standIns := [], harness := (true, "caf9fef4e4f2926cc3be94c1365762021352a6382cb10c773073b3aeef7bb755"), looks := true }, kinds := [], alts := [], laidByText := true, laidKinds := [.data, .listed, .data, .data, .pinned], laidTests := true, laidLooks := .later }
def PrintBackCardSaid : Prop := Claim7.holds Tryz.pinned (.plain (OpenSpec.ofChange printBackSpec)) printBackCard

/-- THE TIED CARD OF 'inlaylaw24.PrintAgain'. -/
def printAgainCard : Claim7 := { stood := { row := printAgainRow, standIns := [], harness := (true, "caf9fef4e4f2926cc3be94c1365762021352a6382cb10c773073b3aeef7bb755"), looks := true }, kinds := [], alts := [], laidByText := true, laidKinds := [.data, .listed, .data, .data, .pinned], laidTests := true, laidLooks := .later }
def PrintAgainCardSaid : Prop := Claim7.holds Tryz.pinned (.plain (OpenSpec.ofChange printAgainSpec)) printAgainCard

/-- THE SECOND FORM's CARD OF 'inlaylaw23.EsiparseTrees'. -/
def esiparseTreesUptoCard : Claim7 := { stood := { row := esiparseTreesUptoRow, standIns := [], harness := (true, "caf9fef4e4f2926cc3be94c1365762021352a6382cb10c773073b3aeef7bb755"), looks := true }, kinds := [], alts := [], laidByText := true, laidKinds := [.data, .listed, .data, .pinned], laidTests := true, laidLooks := .later }
def EsiparseTreesUptoCardSaid : Prop := Claim7.holds Tryz.pinned (.plain (OpenSpec.upto esiparseTreesSpec)) esiparseTreesUptoCard

/-- THE SECOND FORM's CARD OF 'inlaylaw23.EsiparseLong'. -/
def esiparseLongUptoCard : Claim7 := { stood := { row := esiparseLongUptoRow, standIns := [], harness := (true, "caf9fef4e4f2926cc3be94c1365762021352a6382cb10c773073b3aeef7bb755"), looks := true }, kinds := [], alts := [], laidByText := true, laidKinds := [.data, .listed, .data, .pinned], laidTests := true, laidLooks := .later }
def EsiparseLongUptoCardSaid : Prop := Claim7.holds Tryz.pinned (.plain (OpenSpec.upto esiparseLongSpec)) esiparseLongUptoCard

/-- THE SECOND FORM's CARD OF 'inlaylaw24.PrintBack'. -/
def printBackUptoCard : Claim7 := { stood := { row := printBackUptoRow, standIns := [], harness := (true, "caf9fef4e4f2926cc3be94c1365762021352a6382cb10c773073b3aeef7bb755"), looks := true }, kinds := [], alts := [], laidByText := true, laidKinds := [.data, .listed, .data, .data, .pinned], laidTests := true, laidLooks := .later }
def PrintBackUptoCardSaid : Prop := Claim7.holds Tryz.pinned (.plain (OpenSpec.upto printBackSpec)) printBackUptoCard

/-- THE SECOND FORM's CARD OF 'inlaylaw24.PrintAgain'. -/
def printAgainUptoCard : Claim7 := { stood := { row := printAgainUptoRow, standIns := [], harness := (true, "caf9fef4e4f2926cc3be94c1365762021352a6382cb10c773073b3aeef7bb755"), looks := true }, kinds := [], alts := [], laidByText := true, laidKinds := [.data, .listed, .data, .data, .pinned], laidTests := true, laidLooks := .later }
def PrintAgainUptoCardSaid : Prop := Claim7.holds Tryz.pinned (.plain (OpenSpec.upto printAgainSpec)) printAgainUptoCard
end Rows
end Go.Proofs.YtopjpnhgnopbiaaGreatDoor
