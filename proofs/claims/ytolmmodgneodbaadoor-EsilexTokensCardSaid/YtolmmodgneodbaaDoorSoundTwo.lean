/-
  The abstract interpreter is sound in the configuration in which the pieces of a text are a primitive. Conditions: as in the first one.
-/
import Derived.Test.YtolmmodgneodbaaDoorSound
import Derived.Test.YtolmmodgneodbaaDoorJEk
namespace Go.Proofs.YtolmmodgneodbaaDoor
open Go.Ai Go.RowKit Go.Ai.Ex
theorem cfg2_sound {B0 : Nat} (hB : 1 < B0) : Sound cfg2 Inv B0 :=
  cfg_more hB (fun p hp => by
    have hp : p = (8, lexP) := by simpa using hp
    subst hp
    exact lexP_ok (cfg_sound hB)) (by kernel_rfl)
end Go.Proofs.YtolmmodgneodbaaDoor
