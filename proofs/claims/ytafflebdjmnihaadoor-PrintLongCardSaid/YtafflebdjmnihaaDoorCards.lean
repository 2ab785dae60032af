/-
  DERIVED. GIVEN WITH THE SEED: THE CARDS: each row of YtafflebdjmnihaaDoorRows.lean that lists a variable, with what it lists TIED to the program's text (the seventh form; the later family's looks); each row that meets fmt, with fmt's text TOLD by the authors' own Lean function (tested against real Go, not proved from fmt's source: count such statements apart). THE CARD IS WHAT COUNTS. Prove the row's statement (the work); the ties are given (YtafflebdjmnihaaDoorTie.lean); close each card by the builder's one call (the guide's Derived/Test/ToyasCard.lean, 'card_holds'). Laid BY PROGRAM, IN A SANDBOX (cutbox-door.mjs). By AI agents, Wed Nov 11 2026. No macro, syntax, notation, axiom, sorry.
-/
import Derived.Test.YtafflebdjmnihaaDoorRows
import GoSem.ClaimSeven
namespace Go.Proofs.YtafflebdjmnihaaDoor
namespace Rows

/-- THE TIED CARD OF 'inlaylaw24.PrintLong'. -/
def printLongCard : Claim7 := { stood := { row := printLongRow, standIns := [], harness := (true, "2296e7a4930f7f42f3bde2a640bb7b719e7c216651af04b5489ca10977df4051"), looks := false }, kinds := [], alts := [], laidByText := true, laidKinds := [.data], laidTests := true, laidLooks := .later }
def PrintLongCardSaid : Prop := Claim7.holds Tryd.pinned (.plain (OpenSpec.ofChange printLongSpec)) printLongCard

/-- THE SECOND FORM's CARD OF 'inlaylaw24.PrintLong'. -/
def printLongUptoCard : Claim7 := { stood := { row := printLongUptoRow, standIns := [], harness := (true, "2296e7a4930f7f42f3bde2a640bb7b719e7c216651af04b5489ca10977df4051"), looks := false }, kinds := [], alts := [], laidByText := true, laidKinds := [.data], laidTests := true, laidLooks := .later }
def PrintLongUptoCardSaid : Prop := Claim7.holds Tryd.pinned (.plain (OpenSpec.upto printLongSpec)) printLongUptoCard
end Rows
end Go.Proofs.YtafflebdjmnihaaDoor
