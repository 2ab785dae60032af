/-
  DERIVED. GIVEN WITH THE SEED: THE CARDS: each row of YtnncfdlpogjlkaaDoorRows.lean that lists a variable, with what it lists TIED to the program's text (the seventh form; the later family's looks); each row that meets fmt, with fmt's text TOLD by the authors' own Lean function (tested against real Go, not proved from fmt's source: count such statements apart). THE CARD IS WHAT COUNTS. Prove the row's statement (the work); the ties are given (YtnncfdlpogjlkaaDoorTie.lean); close each card by the builder's one call (the guide's Derived/Test/ToyasCard.lean, 'card_holds'). Laid BY PROGRAM, IN A SANDBOX (cutbox-door.mjs). By AI agents, Wed Nov 11 2026. No macro, syntax, notation, axiom, sorry.
-/
import Derived.Test.YtnncfdlpogjlkaaDoorRows
import GoSem.ClaimSeven
namespace Go.Proofs.YtnncfdlpogjlkaaDoor
namespace Rows

/-- THE TIED CARD OF 'inlaylaw06.FramingAsks'. -/
def framingAsksCard : Claim7 := { stood := { row := framingAsksRow, standIns := [], harness := (true, "f74cdb5cf45e964ebbc0866756087e03c27c575bf27dfe53728a09a1fbbb5641"), looks := true }, kinds := [], alts := [], laidByText := true, laidKinds := [.data, .data, .data, .data, .sentinel, .sentinel, .pinned], laidTests := true, laidLooks := .later }
def FramingAsksCardSaid : Prop := Claim7.holds Tryd.pinned (.plain (OpenSpec.ofChange framingAsksSpec)) framingAsksCard

/-- THE TIED CARD OF 'inlaylaw06.FramingTells'. -/
def framingTellsCard : Claim7 := { stood := { row := framingTellsRow, standIns := [], harness := (true, "f74cdb5cf45e964ebbc0866756087e03c27c575bf27dfe53728a09a1fbbb5641"), looks := true }, kinds := [], alts := [], laidByText := true, laidKinds := [.data, .data, .data, .data, .sentinel, .sentinel, .pinned], laidTests := true, laidLooks := .later }
def FramingTellsCardSaid : Prop := Claim7.holds Tryd.pinned (.plain (OpenSpec.ofChange framingTellsSpec)) framingTellsCard

/-- THE TIED CARD OF 'inlaylaw06.FramingOnly'. -/
def framingOnlyCard : Claim7 := { stood := { row := framingOnlyRow, standIns := [], harness := (true, "f74cdb5cf45e964ebbc0866756087e03c27c575bf27dfe53728a09a1fbbb5641"), looks := true }, kinds := [], alts := [], laidByText := true, laidKinds := [.data, .data, .data, .data, .sentinel, .sentinel, .pinned], laidTests := true, laidLooks := .later }
def FramingOnlyCardSaid : Prop := Claim7.holds Tryd.pinned (.plain (OpenSpec.ofChange framingOnlySpec)) framingOnlyCard

/-- THE TIED CARD OF 'inlaylaw06.FramingKnown'. -/
def framingKnownCard : Claim7 := { stood := { row := framingKnownRow, standIns := [], harness := (true, "f74cdb5cf45e964ebbc0866756087e03c27c575bf27dfe53728a09a1fbbb5641"), looks := true }, kinds := [], alts := [], laidByText := true, laidKinds := [.data, .data, .data, .data, .sentinel, .sentinel, .pinned], laidTests := true, laidLooks := .later }
def FramingKnownCardSaid : Prop := Claim7.holds Tryd.pinned (.plain (OpenSpec.ofChange framingKnownSpec)) framingKnownCard

/-- THE TIED CARD OF 'inlaylaw07.ChunkedDecodes'. -/
def chunkedDecodesCard : Claim7 := { stood := { row := chunkedDecodesRow, standIns := [], harness := (true, "f74cdb5cf45e964ebbc0866756087e03c27c575bf27dfe53728a09a1fbbb5641"), looks := true }, kinds := [], alts := [], laidByText := true, laidKinds := [.data, .data, .data, .data, .sentinel, .sentinel, .pinned], laidTests := true, laidLooks := .later }
def ChunkedDecodesCardSaid : Prop := Claim7.holds Tryd.pinned (.plain (OpenSpec.ofChange chunkedDecodesSpec)) chunkedDecodesCard

/-- THE TIED CARD OF 'inlaylaw07.ChunkedEncodes'. -/
def chunkedEncodesCard : Claim7 := { stood := { row := chunkedEncodesRow, standIns := [], harness := (true, "f74cdb5cf45e964ebbc0866756087e03c27c575bf27dfe53728a09a1fbbb5641"), looks := true }, kinds := [], alts := [], laidByText := true, laidKinds := [.data, .data, .data, .data, .sentinel, .sentinel, .pinned], laidTests := true, laidLooks := .later }
def ChunkedEncodesCardSaid : Prop := Claim7.holds Tryd.pinned (.plain (OpenSpec.ofChange chunkedEncodesSpec)) chunkedEncodesCard

/-- THE TIED CARD OF 'inlaylaw07.ChunkedLong'. -/
def chunkedLongCard : Claim7 := { stood := { row := chunkedLongRow, standIns := [], harness := (true, "f74cdb5cf45e964ebbc0866756087e03c27c575bf27dfe53728a09a1fbbb5641"), looks := true }, kinds := [], alts := [], laidByText := true, laidKinds := [.data, .data, .data, .data, .sentinel, .sentinel, .pinned], laidTests := true, laidLooks := .later }
def ChunkedLongCardSaid : Prop := Claim7.holds Tryd.pinned (.plain (OpenSpec.ofChange chunkedLongSpec)) chunkedLongCard

/-- THE TIED CARD OF 'inlaylaw07.ChunkedKnown'. -/
def chunkedKnownCard : Claim7 := { stood := { row := chunkedKnownRow, standIns := [], harness := (true, "f74cdb5cf45e964ebbc0866756087e03c27c575bf27dfe53728a09a1fbbb5641"), looks := true }, kinds := [], alts := [], laidByText := true, laidKinds := [.data, .data, .data, .data, .sentinel, .sentinel, .pinned], laidTests := true, laidLooks := .later }
def ChunkedKnownCardSaid : Prop := Claim7.holds Tryd.pinned (.plain (OpenSpec.ofChange chunkedKnownSpec)) chunkedKnownCard

/-- THE TIED CARD OF 'inlaylaw07.ChunkedBack'. -/
def chunkedBackCard : Claim7 := { stood := { row := chunkedBackRow, standIns := [], harness := (true, "f74cdb5cf45e964ebbc0866756087e03c27c575bf27dfe53728a09a1fbbb5641"), looks := true }, kinds := [], alts := [], laidByText := true, laidKinds := [.data, .data, .data, .data, .sentinel, .sentinel, .pinned], laidTests := true, laidLooks := .later }
def ChunkedBackCardSaid : Prop := Claim7.holds Tryd.pinned (.plain (OpenSpec.ofChange chunkedBackSpec)) chunkedBackCard

/-- THE TIED CARD OF 'inlaylaw07.ChunkedCut'. -/
def chunkedCutCard : Claim7 := { stood := { row := chunkedCutRow, standIns := [], harness := (true, "f74cdb5cf45e964ebbc0866756087e03c27c575bf27dfe53728a09a1fbbb5641"), looks := true }, kinds := [], alts := [], laidByText := true, laidKinds := [.data, .data, .data, .data, .sentinel, .sentinel, .pinned], laidTests := true, laidLooks := .later }
def ChunkedCutCardSaid : Prop := Claim7.holds Tryd.pinned (.plain (OpenSpec.ofChange chunkedCutSpec)) chunkedCutCard

/-- THE SECOND FORM's CARD OF 'inlaylaw06.FramingAsks'. -/
def framingAsksUptoCard : Claim7 := { stood := { row := framingAsksUptoRow, standIns := [], harness := (true, "f74cdb5cf45e964ebbc0866756087e03c27c575bf27dfe53728a09a1fbbb5641"), looks := true }, kinds := [], alts := [], laidByText := true, laidKinds := [.data, .data, .data, .data, .sentinel, .sentinel, .pinned], laidTests := true, laidLooks := .later }
def FramingAsksUptoCardSaid : Prop := Claim7.holds Tryd.pinned (.plain (OpenSpec.upto framingAsksSpec)) framingAsksUptoCard

/-- THE SECOND FORM's CARD OF 'inlaylaw06.FramingTells'. -/
def framingTellsUptoCard : Claim7 := { stood := { row := framingTellsUptoRow, standIns := [], harness := (true, "f74cdb5cf45e964ebbc0866756087e03c27c575bf27dfe53728a09a1fbbb5641"), looks := true }, kinds := [], alts := [], laidByText := true, laidKinds := [.data, .data, .data, .data, .sentinel, .sentinel, .pinned], laidTests := true, laidLooks := .later }
def FramingTellsUptoCardSaid : Prop := Claim7.holds Tryd.pinned (.plain (OpenSpec.upto framingTellsSpec)) framingTellsUptoCard

/-- THE SECOND FORM's CARD OF 'inlaylaw06.FramingOnly'. -/
def framingOnlyUptoCard : Claim7 := { stood := { row := framingOnlyUptoRow, standIns := [], harness := (true, "f74cdb5cf45e964ebbc0866756087e03c27c575bf27dfe53728a09a1fbbb5641"), looks := true }, kinds := [], alts := [], laidByText := true, laidKinds := [.data, .data, .data, .data, .sentinel, .sentinel, .pinned], laidTests := true, laidLooks := .later }
def FramingOnlyUptoCardSaid : Prop := Claim7.holds Tryd.pinned (.plain (OpenSpec.upto framingOnlySpec)) framingOnlyUptoCard

/-- THE SECOND FORM's CARD OF 'inlaylaw06.FramingKnown'. -/
def framingKnownUptoCard : Claim7 := { stood := { row := framingKnownUptoRow, standIns := [], harness := (true, "f74cdb5cf45e964ebbc0866756087e03c27c575bf27dfe53728a09a1fbbb5641"), looks := true }, kinds := [], alts := [], laidByText := true, laidKinds := [.data, .data, .data, .data, .sentinel, .sentinel, .pinned], laidTests := true, laidLooks := .later }
def FramingKnownUptoCardSaid : Prop := Claim7.holds Tryd.pinned (.plain (OpenSpec.upto framingKnownSpec)) framingKnownUptoCard

/-- THE SECOND FORM's CARD OF 'inlaylaw07.ChunkedDecodes'. -/
def chunkedDecodesUptoCard : Claim7 := { stood := { row := chunkedDecodesUptoRow, standIns := [], harness := (true, "f74cdb5cf45e964ebbc0866756087e03c27c575bf27dfe53728a09a1fbbb5641"), looks := true }, kinds := [], alts := [], laidByText := true, laidKinds := [.data, .data, .data, .data, .sentinel, .sentinel, .pinned], laidTests := true, laidLooks := .later }
def ChunkedDecodesUptoCardSaid : Prop := Claim7.holds Tryd.pinned (.plain (OpenSpec.upto chunkedDecodesSpec)) chunkedDecodesUptoCard

/-- THE SECOND FORM's CARD OF 'inlaylaw07.ChunkedEncodes'. -/
def chunkedEncodesUptoCard : Claim7 := { stood := { row := chunkedEncodesUptoRow, standIns := [], harness := (true, "f74cdb5cf45e964ebbc0866756087e03c27c575bf27dfe53728a09a1fbbb5641"), looks := true }, kinds := [], alts := [], laidByText := true, laidKinds := [.data, .data, .data, .data, .sentinel, .sentinel, .pinned], laidTests := true, laidLooks := .later }
def ChunkedEncodesUptoCardSaid : Prop := Claim7.holds Tryd.pinned (.plain (OpenSpec.upto chunkedEncodesSpec)) chunkedEncodesUptoCard

/-- THE SECOND FORM's CARD OF 'inlaylaw07.ChunkedLong'. -/
def chunkedLongUptoCard : Claim7 := { stood := { row := chunkedLongUptoRow, standIns := [], harness := (true, "f74cdb5cf45e964ebbc0866756087e03c27c575bf27dfe53728a09a1fbbb5641"), looks := true }, kinds := [], alts := [], laidByText := true, laidKinds := [.data, .data, .data, .data, .sentinel, .sentinel, .pinned], laidTests := true, laidLooks := .later }
def ChunkedLongUptoCardSaid : Prop := Claim7.holds Tryd.pinned (.plain (OpenSpec.upto chunkedLongSpec)) chunkedLongUptoCard

/-- THE SECOND FORM's CARD OF 'inlaylaw07.ChunkedKnown'. -/
def chunkedKnownUptoCard : Claim7 := { stood := { row := chunkedKnownUptoRow, standIns := [], harness := (true, "f74cdb5cf45e964ebbc0866756087e03c27c575bf27dfe53728a09a1fbbb5641"), looks := true }, kinds := [], alts := [], laidByText := true, laidKinds := [.data, .data, .data, .data, .sentinel, .sentinel, .pinned], laidTests := true, laidLooks := .later }
def ChunkedKnownUptoCardSaid : Prop := Claim7.holds Tryd.pinned (.plain (OpenSpec.upto chunkedKnownSpec)) chunkedKnownUptoCard

/-- THE SECOND FORM's CARD OF 'inlaylaw07.ChunkedBack'. -/
def chunkedBackUptoCard : Claim7 := { stood := { row := chunkedBackUptoRow, standIns := [], harness := (true, "f74cdb5cf45e964ebbc0866756087e03c27c575bf27dfe53728a09a1fbbb5641"), looks := true }, kinds := [], alts := [], laidByText := true, laidKinds := [.data, .data, .data, .data, .sentinel, .sentinel, .pinned], laidTests := true, laidLooks := .later }
def ChunkedBackUptoCardSaid : Prop := Claim7.holds Tryd.pinned (.plain (OpenSpec.upto chunkedBackSpec)) chunkedBackUptoCard

/-- THE SECOND FORM's CARD OF 'inlaylaw07.ChunkedCut'. -/
def chunkedCutUptoCard : Claim7 := { stood := { row := chunkedCutUptoRow, standIns := [], harness := (true, "f74cdb5cf45e964ebbc0866756087e03c27c575bf27dfe53728a09a1fbbb5641"), looks := true }, kinds := [], alts := [], laidByText := true, laidKinds := [.data, .data, .data, .data, .sentinel, .sentinel, .pinned], laidTests := true, laidLooks := .later }
def ChunkedCutUptoCardSaid : Prop := Claim7.holds Tryd.pinned (.plain (OpenSpec.upto chunkedCutSpec)) chunkedCutUptoCard
end Rows
end Go.Proofs.YtnncfdlpogjlkaaDoor
