/-
  Runs of functions of messages, printed by a home tool; each is the kernel's word.
  Fields of messages: checked, put, left out: the functions keep to their contracts.
  Messages put: the functions keep to their contracts.
-/
import Derived.Test.YtnncfdlpogjlkaaGreatDoorRCfg
import Derived.Test.YtnncfdlpogjlkaaGreatDoorRJZa
import Derived.Test.YtnncfdlpogjlkaaGreatDoorRJZo
import Derived.Test.YtnncfdlpogjlkaaGreatDoorRJZc
import Derived.Test.YtnncfdlpogjlkaaGreatDoorRJZd
section
namespace Go.Proofs.YtnncfdlpogjlkaaGreatDoor
open Go.Ai Go
set_option maxRecDepth 100000
set_option linter.unusedVariables false
end Go.Proofs.YtnncfdlpogjlkaaGreatDoor
end

section
namespace Go.Proofs.YtnncfdlpogjlkaaGreatDoor
open Go.Ai Go
set_option linter.unusedSimpArgs false
set_option linter.unusedVariables false
set_option linter.unnecessarySimpa false
set_option maxRecDepth 100000

end Go.Proofs.YtnncfdlpogjlkaaGreatDoor
end

section
namespace Go.Proofs.YtnncfdlpogjlkaaGreatDoor
open Go.Ai Go
set_option linter.unusedSimpArgs false
set_option linter.unusedVariables false
set_option linter.unnecessarySimpa false
set_option maxRecDepth 100000

end Go.Proofs.YtnncfdlpogjlkaaGreatDoor
end
