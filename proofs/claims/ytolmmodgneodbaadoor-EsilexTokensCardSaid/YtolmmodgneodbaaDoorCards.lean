/-
  DERIVED. GIVEN WITH THE SEED: THE CARDS: each row of YtolmmodgneodbaaDoorRows.lean that lists a variable, with what it lists TIED to the program's text (the seventh form; the later family's looks); each row that meets fmt, with fmt's text TOLD by the authors' own Lean function (tested against real Go, not proved from fmt's source: count such statements apart). THE CARD IS WHAT COUNTS. Prove the row's statement (the work); the ties are given (YtolmmodgneodbaaDoorTie.lean); close each card by the builder's one call (the guide's Derived/Test/ToyasCard.lean, 'card_holds'). Laid BY PROGRAM, IN A SANDBOX (cutbox-door.mjs). By AI agents, Wed Nov 11 2026. No macro, syntax, notation, axiom, sorry.
-/
import Derived.Test.YtolmmodgneodbaaDoorRows
import GoSem.ClaimSeven
namespace Go.Proofs.YtolmmodgneodbaaDoor
namespace Rows

/-- THE TIED CARD OF 'inlaylaw21.EsilexTokens'. -/
def esilexTokensCard : Claim7 := { stood := { row := esilexTokensRow, standIns := [], harness := (true, "e0f7037c44ff2bc1bc68189fa8b4c34052ab6b397e35295117256d6f429e13d1"), looks := true }, kinds := [], alts := [], laidByText := true, laidKinds := [.listed, .data], laidTests := true, laidLooks := .later }
def EsilexTokensCardSaid : Prop := Claim7.holds Tryd.pinned (.plain (OpenSpec.ofChange esilexTokensSpec)) esilexTokensCard

/-- THE TIED CARD OF 'inlaylaw21.EsilexKnown'. -/
def esilexKnownCard : Claim7 := { stood := { row := esilexKnownRow, standIns := [], harness := (true, "e0f7037c44ff2bc1bc68189fa8b4c34052ab6b397e35295117256d6f429e13d1"), looks := true }, kinds := [], alts := [], laidByText := true, laidKinds := [.listed, .data], laidTests := true, laidLooks := .later }
def EsilexKnownCardSaid : Prop := Claim7.holds Tryd.pinned (.plain (OpenSpec.ofChange esilexKnownSpec)) esilexKnownCard

/-- THE TIED CARD OF 'inlaylaw21.EsilexWhole'. -/
def esilexWholeCard : Claim7 := { stood := { row := esilexWholeRow, standIns := [], harness := (true, "e0f7037c44ff2bc1bc68189fa8b4c34052ab6b397e35295117256d6f429e13d1"), looks := true }, kinds := [], alts := [], laidByText := true, laidKinds := [.listed, .data], laidTests := true, laidLooks := .later }
def EsilexWholeCardSaid : Prop := Claim7.holds Tryd.pinned (.plain (OpenSpec.ofChange esilexWholeSpec)) esilexWholeCard

/-- THE TIED CARD OF 'inlaylaw21.EsilexAgain'. -/
def esilexAgainCard : Claim7 := { stood := { row := esilexAgainRow, standIns := [], harness := (true, "e0f7037c44ff2bc1bc68189fa8b4c34052ab6b397e35295117256d6f429e13d1"), looks := true }, kinds := [], alts := [], laidByText := true, laidKinds := [.listed, .data], laidTests := true, laidLooks := .later }
def EsilexAgainCardSaid : Prop := Claim7.holds Tryd.pinned (.plain (OpenSpec.ofChange esilexAgainSpec)) esilexAgainCard

/-- THE SECOND FORM's CARD OF 'inlaylaw21.EsilexTokens'. -/
def esilexTokensUptoCard : Claim7 := { stood := { row := esilexTokensUptoRow, standIns := [], harness := (true, "e0f7037c44ff2bc1bc68189fa8b4c34052ab6b397e35295117256d6f429e13d1"), looks := true }, kinds := [], alts := [], laidByText := true, laidKinds := [.listed, .data], laidTests := true, laidLooks := .later }
def EsilexTokensUptoCardSaid : Prop := Claim7.holds Tryd.pinned (.plain (OpenSpec.upto esilexTokensSpec)) esilexTokensUptoCard

/-- THE SECOND FORM's CARD OF 'inlaylaw21.EsilexKnown'. -/
def esilexKnownUptoCard : Claim7 := { stood := { row := esilexKnownUptoRow, standIns := [], harness := (true, "e0f7037c44ff2bc1bc68189fa8b4c34052ab6b397e35295117256d6f429e13d1"), looks := true }, kinds := [], alts := [], laidByText := true, laidKinds := [.listed, .data], laidTests := true, laidLooks := .later }
def EsilexKnownUptoCardSaid : Prop := Claim7.holds Tryd.pinned (.plain (OpenSpec.upto esilexKnownSpec)) esilexKnownUptoCard

/-- THE SECOND FORM's CARD OF 'inlaylaw21.EsilexWhole'. -/
def esilexWholeUptoCard : Claim7 := { stood := { row := esilexWholeUptoRow, standIns := [], harness := (true, "e0f7037c44ff2bc1bc68189fa8b4c34052ab6b397e35295117256d6f429e13d1"), looks := true }, kinds := [], alts := [], laidByText := true, laidKinds := [.listed, .data], laidTests := true, laidLooks := .later }
def EsilexWholeUptoCardSaid : Prop := Claim7.holds Tryd.pinned (.plain (OpenSpec.upto esilexWholeSpec)) esilexWholeUptoCard

/-- THE SECOND FORM's CARD OF 'inlaylaw21.EsilexAgain'. -/
def esilexAgainUptoCard : Claim7 := { stood := { row := esilexAgainUptoRow, standIns := [], harness := (true, "e0f7037c44ff2bc1bc68189fa8b4c34052ab6b397e35295117256d6f429e13d1"), looks := true }, kinds := [], alts := [], laidByText := true, laidKinds := [.listed, .data], laidTests := true, laidLooks := .later }
def EsilexAgainUptoCardSaid : Prop := Claim7.holds Tryd.pinned (.plain (OpenSpec.upto esilexAgainSpec)) esilexAgainUptoCard
end Rows
end Go.Proofs.YtolmmodgneodbaaDoor
