/-
  The chapter's examples, evaluated by the kernel.
  The chapter's examples: the function keeps to its contract.
-/
import Derived.Test.YtolmmodgneodbaaDoorJEe
section
namespace Go.Proofs.YtolmmodgneodbaaDoor
open Go.Ai Go Go.Ai.Ex
set_option maxRecDepth 1000000
/-- The configuration in which the pieces of a text are a primitive. -/
noncomputable def cfg2 : Cfg := { cfg with prim := fun f => lookN f (primT ++ [(8, lexP)]) }
theorem awake_eval : isTrue (call cfg2 false 1000 7 [] []) = true := by kernel_rfl
theorem known_eval : isTrue (call cfg2 false 1000 4 [] []) = true := by kernel_rfl
end Go.Proofs.YtolmmodgneodbaaDoor
end

section
namespace Go.Proofs.YtolmmodgneodbaaDoor
open Go.Ai Go Go.Ai.Ex
set_option maxRecDepth 1000000
theorem pf4k : pureFn cfg2 4 Tryd.f4 := ⟨by kernel_rfl, by kernel_rfl, by kernel_rfl, by kernel_rfl, by kernel_rfl, by kernel_rfl⟩
theorem pf7k : pureFn cfg2 7 Tryd.f7 := ⟨by kernel_rfl, by kernel_rfl, by kernel_rfl, by kernel_rfl, by kernel_rfl, by kernel_rfl⟩
theorem c4 : COk cfg2 4 (fun vs h K => vs.isEmpty = true ∧ K (.bool true) h) := cok_true pf4k known_eval
theorem c7 : COk cfg2 7 (fun vs h K => vs.isEmpty = true ∧ K (.bool true) h) := cok_true pf7k awake_eval
/-- What the arguments may be. -/
def plainS : List TypeId := [9]
theorem plainS_ok : closedT Tryd.prog plainS plainS = true := by kernel_rfl
end Go.Proofs.YtolmmodgneodbaaDoor
end
