/-
  The evaluator answers true at PrintKnown.
-/
import Derived.Test.YtofapbfadpfodaaDoorCfg
import Derived.KernelRfl
namespace Go.Proofs.YtofapbfadpfodaaDoor
open Go.Ai
theorem print_known_eval : isTrue (call cfg false 100000 4 [] []) = true := by kernel_rfl
end Go.Proofs.YtofapbfadpfodaaDoor
