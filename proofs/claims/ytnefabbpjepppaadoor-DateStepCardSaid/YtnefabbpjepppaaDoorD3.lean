/-
  Runs of functions of dates, printed by a home tool; each is the kernel's word.
-/
import Derived.Test.YtnefabbpjepppaaDoorCfg
import Derived.Test.YtnefabbpjepppaaDoorDtD
namespace Go.Proofs.YtnefabbpjepppaaDoor
open Go.Ai Go
set_option maxRecDepth 100000
set_option linter.unusedVariables false
theorem t4 {v : AV} {t : Int} (hT : TabOk cfg (ctab [(10, trueC), (13, putC), (14, putC)])) (H :
    ∃ (t1 : Int), [AV.int IntKind.i64 t] = [AV.int IntKind.i64 t1] ∧ ∃ (t2 : Int), [AV.int IntKind.i64 t] = [AV.int IntKind.i64 t2] ∧ ifP (putS t1 == putS t2) (true = true ∧ AV.bool true = v) (AV.bool false = v)) :
    ToEnd cfg 4 (bodyOf Tryd.f4) (RetIs Tryd.prog Tryd.f4 v) ([.code []]) .normal ([(0, true, .int .i64 t)]) ([]) := by
  have e : unr cfg 4 (bodyOf Tryd.f4) (ctab [(10, trueC), (13, putC), (14, putC)]) ⟨[], []⟩ (RetIs Tryd.prog Tryd.f4 v) 100000 ([.code []]) .normal ([(0, true, .int .i64 t)]) ([]) =
    (∃ (t1 : Int), [AV.int IntKind.i64 t] = [AV.int IntKind.i64 t1] ∧ ∃ (t2 : Int), [AV.int IntKind.i64 t] = [AV.int IntKind.i64 t2] ∧ ifP (putS t1 == putS t2) (true = true ∧ AV.bool true = v) (AV.bool false = v)) := by kernel_rfl
  exact unr_ok hT 100000 _ _ _ _ (e.mpr H)

theorem t9 {v : AV} {a b : Int} (hT : TabOk cfg (ctab [(10, trueC), (13, putC), (14, putC)])) (H :
    ∃ (t1 : Int), [AV.int IntKind.i64 (IntKind.wrap IntKind.i64 (Int.tmod a 253402300800))] = [AV.int IntKind.i64 t1] ∧ ∃ (t2 : Int), [AV.int IntKind.i64 (IntKind.wrap IntKind.i64 (Int.tmod b 253402300800))] = [AV.int IntKind.i64 t2] ∧ ifP ((↑(List.length (putS t1)) : Int) != 29) (AV.bool false = v) (ifP ((↑(List.length (putS t2)) : Int) != 29) (AV.bool false = v) (ifP (!(putS t1 == putS t2) == (IntKind.wrap IntKind.i64 (Int.tmod a 253402300800) == IntKind.wrap IntKind.i64 (Int.tmod b 253402300800))) (AV.bool false = v) (gAnd (cutOb (List.length (putS t1)) none (some 16)) (gAnd (cutOb (List.length (putS t2)) none (some 16)) (ifP ((cutL (putS t1) none (some 16) == cutL (putS t2) none (some 16)) == (IntKind.wrap IntKind.i64 (Int.tdiv (IntKind.wrap IntKind.i64 (Int.tmod a 253402300800)) 86400) == IntKind.wrap IntKind.i64 (Int.tdiv (IntKind.wrap IntKind.i64 (Int.tmod b 253402300800)) 86400))) (true = true ∧ AV.bool true = v) (AV.bool false = v))))))) :
    ToEnd cfg 9 (bodyOf Tryd.f9) (RetIs Tryd.prog Tryd.f9 v) ([.code []]) .normal ([(0, true, .int .u64 a), (1, true, .int .u64 b)]) ([]) := by
  have e : unr cfg 9 (bodyOf Tryd.f9) (ctab [(10, trueC), (13, putC), (14, putC)]) ⟨[], []⟩ (RetIs Tryd.prog Tryd.f9 v) 100000 ([.code []]) .normal ([(0, true, .int .u64 a), (1, true, .int .u64 b)]) ([]) =
    (∃ (t1 : Int), [AV.int IntKind.i64 (IntKind.wrap IntKind.i64 (Int.tmod a 253402300800))] = [AV.int IntKind.i64 t1] ∧ ∃ (t2 : Int), [AV.int IntKind.i64 (IntKind.wrap IntKind.i64 (Int.tmod b 253402300800))] = [AV.int IntKind.i64 t2] ∧ ifP ((↑(List.length (putS t1)) : Int) != 29) (AV.bool false = v) (ifP ((↑(List.length (putS t2)) : Int) != 29) (AV.bool false = v) (ifP (!(putS t1 == putS t2) == (IntKind.wrap IntKind.i64 (Int.tmod a 253402300800) == IntKind.wrap IntKind.i64 (Int.tmod b 253402300800))) (AV.bool false = v) (gAnd (cutOb (List.length (putS t1)) none (some 16)) (gAnd (cutOb (List.length (putS t2)) none (some 16)) (ifP ((cutL (putS t1) none (some 16) == cutL (putS t2) none (some 16)) == (IntKind.wrap IntKind.i64 (Int.tdiv (IntKind.wrap IntKind.i64 (Int.tmod a 253402300800)) 86400) == IntKind.wrap IntKind.i64 (Int.tdiv (IntKind.wrap IntKind.i64 (Int.tmod b 253402300800)) 86400))) (true = true ∧ AV.bool true = v) (AV.bool false = v))))))) := by kernel_rfl
  exact unr_ok hT 100000 _ _ _ _ (e.mpr H)

end Go.Proofs.YtnefabbpjepppaaDoor
