/-
  strings.Builder's String, in the call's own memory.
-/
import Derived.Test.YtopjpnhgnopbiaaDoorAiTop
import Derived.Shelf.Strings.Builder1
set_option linter.unusedVariables false
set_option linter.unusedSimpArgs false
set_option linter.unnecessarySimpa false
namespace Go.Ai
open Go.RowKit Go.Shelf
section
variable {G:Nat→Option (List AV)}{I:World→Prop}{B0:Nat}{E:Env}
end
section
open Go.Proofs
variable {P:Program}{ρ:Ren}
end
section
open Go.Proofs
variable {P:Program}{ρ:Ren}{G:Nat→Option (List AV)}{I:World→Prop}{B0:Nat}
end
end Go.Ai
