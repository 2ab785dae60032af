/-
  The configuration in which what fields say is a primitive is sound too.
-/
import Derived.Test.YtnncfdlpogjlkaaDoorSound
import Derived.Test.YtnncfdlpogjlkaaDoorJMe
namespace Go.Proofs.YtnncfdlpogjlkaaDoor
open Go.Ai Go.RowKit
theorem cfg_sound2 {B0 : Nat} (hB : 3 < B0) : Sound cfg2 Inv B0 :=
  cfg_more hB (l := [(15, gAsk), (18, gTell)]) (by
    intro p hp
    simp only [List.mem_cons, List.not_mem_nil, or_false] at hp
    rcases hp with rfl | rfl
    · exact gAsk_ok (cfg_sound hB)
    · exact gTell_ok (cfg_sound hB)) (by kernel_rfl)
end Go.Proofs.YtnncfdlpogjlkaaDoor
