/-
  DateReads' contract: the program reads any text as the document does.
-/
import Derived.Test.YtnefabbpjepppaaDoorJPe
import Derived.Test.YtnefabbpjepppaaDoorJPc
import Derived.Test.YtnefabbpjepppaaDoorJPb
import Derived.Test.YtnefabbpjepppaaDoorJTr
section
namespace Go.Proofs.YtnefabbpjepppaaDoor
open Go.Ai Go
set_option linter.unusedSimpArgs false
set_option linter.unusedVariables false
set_option maxRecDepth 100000

theorem pf3 : pureFn cfg 3 Tryd.f3 := ⟨by kernel_rfl, by kernel_rfl, by kernel_rfl, by kernel_rfl, by kernel_rfl, by kernel_rfl⟩
def readsC : Con := fun vs h K => ∃ (s : List UInt8) (now : Int), vs = [.str s, .int .i64 now] ∧ K (.bool true) h
theorem c3 : COk cfg 3 readsC := by
  refine cok_pure pf3 fun vs h K ht => ?_
  obtain ⟨s, now, rfl, hk⟩ := ht
  refine ⟨_, hk, t3 (ctab_ok (ctab_cons c10 (ctab_cons c11 (ctab_cons c12 ctab_nil)))) (ifP_intro (fun _ => ⟨rfl, rfl⟩) fun a => ?_)⟩
  simp at a
  refine ⟨s, now, rfl, s, now, by omega, rfl, ?_⟩
  rw [reads_same s now]
  exact ifP_intro (fun _ => ifP_intro (fun _ => ⟨rfl, rfl⟩) fun b => by simp at b) fun b => by simp at b
end Go.Proofs.YtnefabbpjepppaaDoor
end
