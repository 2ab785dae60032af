/-
  The evaluator answers true at TreeKnown.
-/
import Derived.Test.YtofapbfadpfodaaCfg
import Derived.KernelRfl
namespace Go.Proofs.Ytofapbfadpfodaa
open Go.Ai
theorem tree_known_eval : isTrue (call cfg false 100000 4 [] []) = true := by kernel_rfl
end Go.Proofs.Ytofapbfadpfodaa
