/-
  DERIVED. GIVEN WITH THE SEED: THE CARDS: each row of YtofapbfadpfodaaDoorRows.lean that lists a variable, with what it lists TIED to the program's text (the seventh form; the later family's looks); each row that meets fmt, with fmt's text TOLD by the authors' own Lean function (tested against real Go, not proved from fmt's source: count such statements apart). THE CARD IS WHAT COUNTS. Prove the row's statement (the work); the ties are given (YtofapbfadpfodaaDoorTie.lean); close each card by the builder's one call (the guide's Derived/Test/ToyasCard.lean, 'card_holds'). Laid BY PROGRAM, IN A SANDBOX (cutbox-door.mjs). By AI agents, Wed Nov 11 2026. No macro, syntax, notation, axiom, sorry.
-/
import Derived.Test.YtofapbfadpfodaaDoorRows
import GoSem.ClaimSeven
namespace Go.Proofs.YtofapbfadpfodaaDoor
namespace Rows

/-- THE TIED CARD OF 'inlaylaw24.PrintLong'. -/
def printLongCard : Claim7 := { stood := { row := printLongRow, standIns := [], harness := (true, "1a2d9e38f9526d0411c679528190ea96e0e9215fbe4b2c052378f591fab5e5a7"), looks := false }, kinds := [], alts := [], laidByText := true, laidKinds := [.data], laidTests := true, laidLooks := .later }
def PrintLongCardSaid : Prop := Claim7.holds Tryd.pinned (.plain (OpenSpec.ofChange printLongSpec)) printLongCard

/-- THE TIED CARD OF 'inlaylaw24.PrintKnown'. -/
def printKnownCard : Claim7 := { stood := { row := printKnownRow, standIns := [], harness := (true, "1a2d9e38f9526d0411c679528190ea96e0e9215fbe4b2c052378f591fab5e5a7"), looks := false }, kinds := [], alts := [], laidByText := true, laidKinds := [.data], laidTests := true, laidLooks := .later }
def PrintKnownCardSaid : Prop := Claim7.holds Tryd.pinned (.plain (OpenSpec.ofChange printKnownSpec)) printKnownCard

/-- THE SECOND FORM's CARD OF 'inlaylaw24.PrintLong'. -/
def printLongUptoCard : Claim7 := { stood := { row := printLongUptoRow, standIns := [], harness := (true, "1a2d9e38f9526d0411c679528190ea96e0e9215fbe4b2c052378f591fab5e5a7"), looks := false }, kinds := [], alts := [], laidByText := true, laidKinds := [.data], laidTests := true, laidLooks := .later }
def PrintLongUptoCardSaid : Prop := Claim7.holds Tryd.pinned (.plain (OpenSpec.upto printLongSpec)) printLongUptoCard

/-- THE SECOND FORM's CARD OF 'inlaylaw24.PrintKnown'. -/
def printKnownUptoCard : Claim7 := { stood := { row := printKnownUptoRow, standIns := [], harness := (true, "1a2d9e38f9526d0411c679528190ea96e0e9215fbe4b2c052378f591fab5e5a7"), looks := false }, kinds := [], alts := [], laidByText := true, laidKinds := [.data], laidTests := true, laidLooks := .later }
def PrintKnownUptoCardSaid : Prop := Claim7.holds Tryd.pinned (.plain (OpenSpec.upto printKnownSpec)) printKnownUptoCard
end Rows
end Go.Proofs.YtofapbfadpfodaaDoor
