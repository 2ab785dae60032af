/-
  NARROWER THAN 'FOR EVERY INPUT', by the rows' own cells (each row's printed sentence says how): PrintLong: laid.
  DERIVED. THE GIVEN ROWS OF THIS SEAT. 1 by the template 'for every input the law returns true; each argument reads behind the call as it read before'; 0 by the template 'total and deterministic' (their statements: YtafflebdjmnihaaDoorTotals.lean).
  GIVEN WITH THE SEED: the statements are not yours to turn. If you find one false, say at which input.
  Laid BY PROGRAM, IN A SANDBOX (cutbox-rows.mjs): the forced cells as the released guide's own fill.sh prints them over the translation 33f8cd52fd6f5565… (all of the seat's roots in one cut). By AI agents, Wed Nov 11 2026. No macro, syntax, notation, axiom, sorry.
-/
import Derived.Test.YtafflebdjmnihaaDoorChecked
import GoSem.Claim
import GoSem.ClaimJoined
import GoSem.ClaimMapViews
import Derived.JoinedTies
import Derived.KernelRfl
namespace Go.Proofs.YtafflebdjmnihaaDoor
/- THE CELL 'sum', in the pinned program and in every row, IS THE sha256 OF THE DUMP (.gsa) THAT YtafflebdjmnihaaDoorProg.lean LOADS. Nothing in Lean hashes anything: it is a label: what it is worth is what the hold of that sum in a sandbox is worth. -/
noncomputable def Tryd.pinned : Pinned := { name := "ytafflebdjmnihaadoor", sum := "33f8cd52fd6f5565fb00e463f8004489335d22b9ea2ae6ad9f8790f43c09c2c5", checked := Tryd.checked }
namespace Rows
def none {H : Type} : Left H := { results := [], args := [] }

/- WHAT THE LISTED PACKAGE-LEVEL VARIABLES READ AS WHEN THE CALL BEGINS. Each datum BY PROGRAM (the guide's laid-datum.mjs) off the statement by which the dump's own 'gosem.cut.vars' lays the variable. In a bare row this is a premise. The card (YtafflebdjmnihaaDoorCards.lean) ties it to the program's text. -/
def laid_inlay_esiprint_names {H : Type} : DataW H := .agg [.lit (.string []), .lit (.string []), .lit (.string []), .lit (.string [105, 110, 99, 108, 117, 100, 101]), .lit (.string [105, 110, 108, 105, 110, 101]), .lit (.string [114, 101, 109, 111, 118, 101]), .lit (.string [99, 111, 109, 109, 101, 110, 116]), .lit (.string [116, 114, 121]), .lit (.string [97, 116, 116, 101, 109, 112, 116]), .lit (.string [101, 120, 99, 101, 112, 116]), .lit (.string [99, 104, 111, 111, 115, 101]), .lit (.string [119, 104, 101, 110]), .lit (.string [111, 116, 104, 101, 114, 119, 105, 115, 101]), .lit (.string [118, 97, 114, 115])]

/-- 'inlaylaw24.PrintLong': WHATEVER THE INPUT: true; the input reads as it did. -/
def printLongSpec : ChangeSpec := { name := "printLong", fn := fun _ => fun
  | [d1, d2] => { results := [.lit (.bool true)], args := [d1, d2] }
  | _ => none }
def printLongRow : OpenClaim := { program := "ytafflebdjmnihaadoor", sum := "33f8cd52fd6f5565fb00e463f8004489335d22b9ea2ae6ad9f8790f43c09c2c5", func := "inlay/inlaylaw24.PrintLong", spec := "printLong", inPlace := ["internal/bytealg.IndexByteString", "internal/bytealg.IndexString", "internal/abi.NoEscape"], unfollowed := true, recurses := true, named := ["internal/bytealg.MaxLen", "inlay/esiprint.names"], apart := false, laid := [("inlay/esiprint.names", laid_inlay_esiprint_names)] }
def PrintLongSaid : Prop := printLongRow.holds Tryd.pinned (OpenSpec.ofChange printLongSpec)

/-- ITS FALSE NEIGHBOUR: 'it returns false'. Refute it at one input. -/
def printLongWrong : ChangeSpec := { name := "printLong", fn := fun _ => fun
  | [d1, d2] => { results := [.lit (.bool false)], args := [d1, d2] }
  | _ => none }
def PrintLongWrongFalsely : Prop := printLongRow.holds Tryd.pinned (OpenSpec.ofChange printLongWrong)

/- THE SECOND FORM. 'bulk': how many values and letters a reading holds, each counted each time it is reached (what is shared counts as often as it is met; a slice's spare places count too). A statement '..UptoSaid' is the law's where the arguments, and the package variables that the reading takes, are together of bulk at most 1048576: NARROWER than '..Said'. Prove '..Said' where nothing that the law and all that it calls make is longer than what came in: it says more and counts as full. Else prove '..UptoSaid'. A law counts once. -/
mutual
def uptoBulk {H : Type} : DataW H → Nat
  | .lit (.string bytes) => bytes.length + 1
  | .lit _ => 1
  | .nil => 1
  | .ptr d => uptoBulk d + 1
  | .slice elems spare => uptoBulkAll elems + uptoBulkAll spare + 1
  | .agg parts => uptoBulkAll parts + 1
  | .iface _ d => uptoBulk d + 1
  | .map entries => uptoBulkEntries entries + 1
  | .held _ => 1
def uptoBulkAll {H : Type} : List (DataW H) → Nat
  | [] => 0
  | d :: r => uptoBulk d + uptoBulkAll r
def uptoBulkEntries {H : Type} : List (Lit × DataW H) → Nat
  | [] => 0
  | x :: r => uptoBulkEntry x + uptoBulkEntries r
def uptoBulkEntry {H : Type} : Lit × DataW H → Nat
  | (.string bytes, d) => bytes.length + uptoBulk d + 1
  | (_, d) => uptoBulk d + 1
 end
def uptoSmall : (H : Type) → List (DataW H) → Bool := fun _ ds => decide (uptoBulkAll ds ≤ 1048576)
def OpenSpec.upto (s : _root_.Go.ChangeSpec) : _root_.Go.OpenSpec := { _root_.Go.OpenSpec.ofChange s with cond := some uptoSmall }

/-- 'inlaylaw24.PrintLong', WHERE WHAT IT READS IS OF BULK AT MOST 1048576: true; the input reads as it did. -/
def printLongUptoRow : OpenClaim := { program := "ytafflebdjmnihaadoor", sum := "33f8cd52fd6f5565fb00e463f8004489335d22b9ea2ae6ad9f8790f43c09c2c5", func := "inlay/inlaylaw24.PrintLong", spec := "printLong", inPlace := ["internal/bytealg.IndexByteString", "internal/bytealg.IndexString", "internal/abi.NoEscape"], unfollowed := true, recurses := true, named := ["internal/bytealg.MaxLen", "inlay/esiprint.names"], apart := false, laid := [("inlay/esiprint.names", laid_inlay_esiprint_names)], narrowed := true }
def PrintLongUptoSaid : Prop := printLongUptoRow.holds Tryd.pinned (OpenSpec.upto printLongSpec)

end Rows
end Go.Proofs.YtafflebdjmnihaaDoor
