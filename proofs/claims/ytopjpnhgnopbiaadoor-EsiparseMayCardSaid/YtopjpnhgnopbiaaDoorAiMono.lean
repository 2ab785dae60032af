/-
  More fuel changes no answer of the evaluator. No statement about the program is made here.
-/
import Derived.Test.YtopjpnhgnopbiaaDoorAiCtr
set_option linter.unusedVariables false
set_option linter.unusedSimpArgs false
set_option linter.unnecessarySimpa false
namespace Go.Ai
open Go.RowKit
section
variable {C:Cfg}
end
theorem unr_use {p q:Prop}(H:p)(e:q=p):q:=e.mpr H
end Go.Ai
