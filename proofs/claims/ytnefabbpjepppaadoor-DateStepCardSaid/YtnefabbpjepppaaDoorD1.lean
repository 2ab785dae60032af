/-
  Runs of functions of dates, printed by a home tool; each is the kernel's word.
-/
import Derived.Test.YtnefabbpjepppaaDoorCfg
import Derived.Test.YtnefabbpjepppaaDoorDtD
namespace Go.Proofs.YtnefabbpjepppaaDoor
open Go.Ai Go
set_option maxRecDepth 100000
set_option linter.unusedVariables false
theorem t48 {v : AV} {y : Int} (hT : TabOk cfg (ctab [])) (H :
    ifP (Int.tmod y 4 == 0) (ifP (Int.tmod y 100 != 0) (AV.bool true = v) (AV.bool (Int.tmod y 400 == 0) = v)) (AV.bool (Int.tmod y 400 == 0) = v)) :
    ToEnd cfg 48 (bodyOf Tryd.f48) (RetIs Tryd.prog Tryd.f48 v) ([.code []]) .normal ([(0, true, .int .i64 y)]) ([]) := by
  have e : unr cfg 48 (bodyOf Tryd.f48) (ctab []) ⟨[], []⟩ (RetIs Tryd.prog Tryd.f48 v) 100000 ([.code []]) .normal ([(0, true, .int .i64 y)]) ([]) =
    (ifP (Int.tmod y 4 == 0) (ifP (Int.tmod y 100 != 0) (AV.bool true = v) (AV.bool (Int.tmod y 400 == 0) = v)) (AV.bool (Int.tmod y 400 == 0) = v)) := by kernel_rfl
  exact unr_ok hT 100000 _ _ _ _ (e.mpr H)

theorem t34 {v : AV} {y : Int} (hT : TabOk cfg (ctab [])) (H :
    ifP (Int.tmod y 400 == 0) (AV.bool true = v) (ifP (Int.tmod y 4 == 0) (AV.bool (Int.tmod y 100 != 0) = v) (AV.bool false = v))) :
    ToEnd cfg 34 (bodyOf Tryd.f34) (RetIs Tryd.prog Tryd.f34 v) ([.code []]) .normal ([(0, true, .int .i64 y)]) ([]) := by
  have e : unr cfg 34 (bodyOf Tryd.f34) (ctab []) ⟨[], []⟩ (RetIs Tryd.prog Tryd.f34 v) 100000 ([.code []]) .normal ([(0, true, .int .i64 y)]) ([]) =
    (ifP (Int.tmod y 400 == 0) (AV.bool true = v) (ifP (Int.tmod y 4 == 0) (AV.bool (Int.tmod y 100 != 0) = v) (AV.bool false = v))) := by kernel_rfl
  exact unr_ok hT 100000 _ _ _ _ (e.mpr H)

theorem t47 {v : AV} {y : Int} (hT : TabOk cfg (ctab [])) (H :
    AV.int IntKind.i64 (IntKind.wrap IntKind.i64 (IntKind.wrap IntKind.i64 (IntKind.wrap IntKind.i64 (IntKind.wrap IntKind.i64 (IntKind.wrap IntKind.i64 (IntKind.wrap IntKind.i64 (IntKind.wrap IntKind.i64 (365 * IntKind.wrap IntKind.i64 (y - 1970)) + IntKind.wrap IntKind.i64 (Int.tdiv (IntKind.wrap IntKind.i64 (y - 1)) 4)) - IntKind.wrap IntKind.i64 (Int.tdiv (IntKind.wrap IntKind.i64 (y - 1)) 100)) + IntKind.wrap IntKind.i64 (Int.tdiv (IntKind.wrap IntKind.i64 (y - 1)) 400)) - 492) + 19) - 4)) = v) :
    ToEnd cfg 47 (bodyOf Tryd.f47) (RetIs Tryd.prog Tryd.f47 v) ([.code []]) .normal ([(0, true, .int .i64 y)]) ([]) := by
  have e : unr cfg 47 (bodyOf Tryd.f47) (ctab []) ⟨[], []⟩ (RetIs Tryd.prog Tryd.f47 v) 100000 ([.code []]) .normal ([(0, true, .int .i64 y)]) ([]) =
    (AV.int IntKind.i64 (IntKind.wrap IntKind.i64 (IntKind.wrap IntKind.i64 (IntKind.wrap IntKind.i64 (IntKind.wrap IntKind.i64 (IntKind.wrap IntKind.i64 (IntKind.wrap IntKind.i64 (IntKind.wrap IntKind.i64 (365 * IntKind.wrap IntKind.i64 (y - 1970)) + IntKind.wrap IntKind.i64 (Int.tdiv (IntKind.wrap IntKind.i64 (y - 1)) 4)) - IntKind.wrap IntKind.i64 (Int.tdiv (IntKind.wrap IntKind.i64 (y - 1)) 100)) + IntKind.wrap IntKind.i64 (Int.tdiv (IntKind.wrap IntKind.i64 (y - 1)) 400)) - 492) + 19) - 4)) = v) := by kernel_rfl
  exact unr_ok hT 100000 _ _ _ _ (e.mpr H)

theorem t33 {v : AV} {n : Int} (hT : TabOk cfg (ctab [])) (H :
    gAnd (decide (0 ≤ IntKind.wrap IntKind.u8 (IntKind.wrap IntKind.i64 (48 + Int.tmod (IntKind.wrap IntKind.i64 (Int.tdiv n 10)) 10))) && decide (IntKind.wrap IntKind.u8 (IntKind.wrap IntKind.i64 (48 + Int.tmod (IntKind.wrap IntKind.i64 (Int.tdiv n 10)) 10)) < 256) && (decide (0 ≤ IntKind.wrap IntKind.u8 (IntKind.wrap IntKind.i64 (48 + Int.tmod n 10))) && decide (IntKind.wrap IntKind.u8 (IntKind.wrap IntKind.i64 (48 + Int.tmod n 10)) < 256) && true)) (AV.str [UInt8.ofNat (Int.toNat (IntKind.wrap IntKind.u8 (IntKind.wrap IntKind.i64 (48 + Int.tmod (IntKind.wrap IntKind.i64 (Int.tdiv n 10)) 10)))), UInt8.ofNat (Int.toNat (IntKind.wrap IntKind.u8 (IntKind.wrap IntKind.i64 (48 + Int.tmod n 10))))] = v)) :
    ToEnd cfg 33 (bodyOf Tryd.f33) (RetIs Tryd.prog Tryd.f33 v) ([.code []]) .normal ([(0, true, .int .i64 n)]) ([]) := by
  have e : unr cfg 33 (bodyOf Tryd.f33) (ctab []) ⟨[], []⟩ (RetIs Tryd.prog Tryd.f33 v) 100000 ([.code []]) .normal ([(0, true, .int .i64 n)]) ([]) =
    (gAnd (decide (0 ≤ IntKind.wrap IntKind.u8 (IntKind.wrap IntKind.i64 (48 + Int.tmod (IntKind.wrap IntKind.i64 (Int.tdiv n 10)) 10))) && decide (IntKind.wrap IntKind.u8 (IntKind.wrap IntKind.i64 (48 + Int.tmod (IntKind.wrap IntKind.i64 (Int.tdiv n 10)) 10)) < 256) && (decide (0 ≤ IntKind.wrap IntKind.u8 (IntKind.wrap IntKind.i64 (48 + Int.tmod n 10))) && decide (IntKind.wrap IntKind.u8 (IntKind.wrap IntKind.i64 (48 + Int.tmod n 10)) < 256) && true)) (AV.str [UInt8.ofNat (Int.toNat (IntKind.wrap IntKind.u8 (IntKind.wrap IntKind.i64 (48 + Int.tmod (IntKind.wrap IntKind.i64 (Int.tdiv n 10)) 10)))), UInt8.ofNat (Int.toNat (IntKind.wrap IntKind.u8 (IntKind.wrap IntKind.i64 (48 + Int.tmod n 10))))] = v)) := by kernel_rfl
  exact unr_ok hT 100000 _ _ _ _ (e.mpr H)

theorem t31 {v : AV} {y m : Int} (hT : TabOk cfg (ctab [(48, leapC)])) (H :
    ifP (m == 2) (∃ (y1 : Nat), y1 ≤ 1000000 ∧ [AV.int IntKind.i64 y] = [AV.int IntKind.i64 (↑y1 : Int)] ∧ ifP (leapN y1) (AV.int IntKind.i64 29 = v) (AV.int IntKind.i64 28 = v)) (ifP (m == 4) (AV.int IntKind.i64 30 = v) (ifP (m == 6) (AV.int IntKind.i64 30 = v) (ifP (m == 9) (AV.int IntKind.i64 30 = v) (ifP (m == 11) (AV.int IntKind.i64 30 = v) (AV.int IntKind.i64 31 = v)))))) :
    ToEnd cfg 31 (bodyOf Tryd.f31) (RetIs Tryd.prog Tryd.f31 v) ([.code []]) .normal ([(0, true, .int .i64 y), (1, true, .int .i64 m)]) ([]) := by
  have e : unr cfg 31 (bodyOf Tryd.f31) (ctab [(48, leapC)]) ⟨[], []⟩ (RetIs Tryd.prog Tryd.f31 v) 100000 ([.code []]) .normal ([(0, true, .int .i64 y), (1, true, .int .i64 m)]) ([]) =
    (ifP (m == 2) (∃ (y1 : Nat), y1 ≤ 1000000 ∧ [AV.int IntKind.i64 y] = [AV.int IntKind.i64 (↑y1 : Int)] ∧ ifP (leapN y1) (AV.int IntKind.i64 29 = v) (AV.int IntKind.i64 28 = v)) (ifP (m == 4) (AV.int IntKind.i64 30 = v) (ifP (m == 6) (AV.int IntKind.i64 30 = v) (ifP (m == 9) (AV.int IntKind.i64 30 = v) (ifP (m == 11) (AV.int IntKind.i64 30 = v) (AV.int IntKind.i64 31 = v)))))) := by kernel_rfl
  exact unr_ok hT 100000 _ _ _ _ (e.mpr H)

theorem t35 {v : AV} {y m : Int} (hT : TabOk cfg (ctab [(34, leapC)])) (H :
    ifP (m == 2) (∃ (y1 : Nat), y1 ≤ 1000000 ∧ [AV.int IntKind.i64 y] = [AV.int IntKind.i64 (↑y1 : Int)] ∧ ifP (leapN y1) (AV.int IntKind.i64 29 = v) (gAnd (inR (IntKind.wrap IntKind.i64 (m - 1)) 12 && true && true) (∃ (z2 : Int), getE [[AV.int IntKind.i64 31], [AV.int IntKind.i64 28], [AV.int IntKind.i64 31], [AV.int IntKind.i64 30], [AV.int IntKind.i64 31], [AV.int IntKind.i64 30], [AV.int IntKind.i64 31], [AV.int IntKind.i64 31], [AV.int IntKind.i64 30], [AV.int IntKind.i64 31], [AV.int IntKind.i64 30], [AV.int IntKind.i64 31]] (IntKind.wrap IntKind.i64 (m - 1)) = [AV.int IntKind.i64 z2] ∧ AV.int IntKind.i64 z2 = v))) (gAnd (inR (IntKind.wrap IntKind.i64 (m - 1)) 12 && true && true) (∃ (z3 : Int), getE [[AV.int IntKind.i64 31], [AV.int IntKind.i64 28], [AV.int IntKind.i64 31], [AV.int IntKind.i64 30], [AV.int IntKind.i64 31], [AV.int IntKind.i64 30], [AV.int IntKind.i64 31], [AV.int IntKind.i64 31], [AV.int IntKind.i64 30], [AV.int IntKind.i64 31], [AV.int IntKind.i64 30], [AV.int IntKind.i64 31]] (IntKind.wrap IntKind.i64 (m - 1)) = [AV.int IntKind.i64 z3] ∧ AV.int IntKind.i64 z3 = v))) :
    ToEnd cfg 35 (bodyOf Tryd.f35) (RetIs Tryd.prog Tryd.f35 v) ([.code []]) .normal ([(0, true, .int .i64 y), (1, true, .int .i64 m)]) ([]) := by
  have e : unr cfg 35 (bodyOf Tryd.f35) (ctab [(34, leapC)]) ⟨[], [([0, 1, 1, 1], 3, [.int .i64])]⟩ (RetIs Tryd.prog Tryd.f35 v) 100000 ([.code []]) .normal ([(0, true, .int .i64 y), (1, true, .int .i64 m)]) ([]) =
    (ifP (m == 2) (∃ (y1 : Nat), y1 ≤ 1000000 ∧ [AV.int IntKind.i64 y] = [AV.int IntKind.i64 (↑y1 : Int)] ∧ ifP (leapN y1) (AV.int IntKind.i64 29 = v) (gAnd (inR (IntKind.wrap IntKind.i64 (m - 1)) 12 && true && true) (∃ (z2 : Int), getE [[AV.int IntKind.i64 31], [AV.int IntKind.i64 28], [AV.int IntKind.i64 31], [AV.int IntKind.i64 30], [AV.int IntKind.i64 31], [AV.int IntKind.i64 30], [AV.int IntKind.i64 31], [AV.int IntKind.i64 31], [AV.int IntKind.i64 30], [AV.int IntKind.i64 31], [AV.int IntKind.i64 30], [AV.int IntKind.i64 31]] (IntKind.wrap IntKind.i64 (m - 1)) = [AV.int IntKind.i64 z2] ∧ AV.int IntKind.i64 z2 = v))) (gAnd (inR (IntKind.wrap IntKind.i64 (m - 1)) 12 && true && true) (∃ (z3 : Int), getE [[AV.int IntKind.i64 31], [AV.int IntKind.i64 28], [AV.int IntKind.i64 31], [AV.int IntKind.i64 30], [AV.int IntKind.i64 31], [AV.int IntKind.i64 30], [AV.int IntKind.i64 31], [AV.int IntKind.i64 31], [AV.int IntKind.i64 30], [AV.int IntKind.i64 31], [AV.int IntKind.i64 30], [AV.int IntKind.i64 31]] (IntKind.wrap IntKind.i64 (m - 1)) = [AV.int IntKind.i64 z3] ∧ AV.int IntKind.i64 z3 = v))) := by kernel_rfl
  exact unr_ok hT 100000 _ _ _ _ (e.mpr H)

theorem t30a {v : AV} {d : Int} (hT : TabOk cfg (ctab [(47, aheadC)])) (H :
    ToEnd cfg 30 (bodyOf Tryd.f30) (RetIs Tryd.prog Tryd.f30 v) [Fm.code [0, 0, 1, 1], Fm.block 0, Fm.code [1, 1, 1]] XT.normal [(0, true, AV.int IntKind.i64 d), (2, true, AV.int IntKind.i64 (IntKind.wrap IntKind.i64 (1970 + IntKind.wrap IntKind.i64 (Int.tdiv d 366))))] []) :
    ToEnd cfg 30 (bodyOf Tryd.f30) (RetIs Tryd.prog Tryd.f30 v) ([.code []]) .normal ([(0, true, .int .i64 d)]) ([]) := by
  have e : unr cfg 30 (bodyOf Tryd.f30) (ctab [(47, aheadC)]) ⟨[[0, 0, 1, 1]], []⟩ (RetIs Tryd.prog Tryd.f30 v) 100000 ([.code []]) .normal ([(0, true, .int .i64 d)]) ([]) =
    (ToEnd cfg 30 (bodyOf Tryd.f30) (RetIs Tryd.prog Tryd.f30 v) [Fm.code [0, 0, 1, 1], Fm.block 0, Fm.code [1, 1, 1]] XT.normal [(0, true, AV.int IntKind.i64 d), (2, true, AV.int IntKind.i64 (IntKind.wrap IntKind.i64 (1970 + IntKind.wrap IntKind.i64 (Int.tdiv d 366))))] []) := by kernel_rfl
  exact unr_ok hT 100000 _ _ _ _ (e.mpr H)

theorem t30b {v : AV}  {i0 : Int} {i2 : Int} (hT : TabOk cfg (ctab [(47, aheadC)])) (H :
    ∃ (y1 : Nat), 1 ≤ y1 ∧ y1 ≤ 1000000 ∧ [AV.int IntKind.i64 (IntKind.wrap IntKind.i64 (i2 + 1))] = [AV.int IntKind.i64 (↑y1 : Int)] ∧ ifP (decide (ahd y1 ≤ i0)) (ToEnd cfg 30 (bodyOf Tryd.f30) (RetIs Tryd.prog Tryd.f30 v) [Fm.code [0, 0, 1, 1], Fm.block 0, Fm.code [1, 1, 1]] XT.normal [(0, true, AV.int IntKind.i64 i0), (2, true, AV.int IntKind.i64 (IntKind.wrap IntKind.i64 (i2 + 1)))] []) (∃ (y2 : Nat), 1 ≤ y2 ∧ y2 ≤ 1000000 ∧ [AV.int IntKind.i64 i2] = [AV.int IntKind.i64 (↑y2 : Int)] ∧ AV.tup [AV.int IntKind.i64 i2, AV.int IntKind.i64 (IntKind.wrap IntKind.i64 (i0 - ahd y2))] = v)) :
    ToEnd cfg 30 (bodyOf Tryd.f30) (RetIs Tryd.prog Tryd.f30 v) ([.code [0, 0, 1, 1], Fm.block 0, Fm.code [1, 1, 1]]) .normal ([(0, true, AV.int IntKind.i64 i0), (2, true, AV.int IntKind.i64 i2)]) ([]) := by
  have e : unr cfg 30 (bodyOf Tryd.f30) (ctab [(47, aheadC)]) ⟨[[0, 0, 1, 1]], []⟩ (RetIs Tryd.prog Tryd.f30 v) 100000 ([.code [0, 0, 0, 1, 1], .loop [0, 0, 1, 1] 0, Fm.block 0, Fm.code [1, 1, 1]]) .normal ([(0, true, AV.int IntKind.i64 i0), (2, true, AV.int IntKind.i64 i2)]) ([]) =
    (∃ (y1 : Nat), 1 ≤ y1 ∧ y1 ≤ 1000000 ∧ [AV.int IntKind.i64 (IntKind.wrap IntKind.i64 (i2 + 1))] = [AV.int IntKind.i64 (↑y1 : Int)] ∧ ifP (decide (ahd y1 ≤ i0)) (ToEnd cfg 30 (bodyOf Tryd.f30) (RetIs Tryd.prog Tryd.f30 v) [Fm.code [0, 0, 1, 1], Fm.block 0, Fm.code [1, 1, 1]] XT.normal [(0, true, AV.int IntKind.i64 i0), (2, true, AV.int IntKind.i64 (IntKind.wrap IntKind.i64 (i2 + 1)))] []) (∃ (y2 : Nat), 1 ≤ y2 ∧ y2 ≤ 1000000 ∧ [AV.int IntKind.i64 i2] = [AV.int IntKind.i64 (↑y2 : Int)] ∧ AV.tup [AV.int IntKind.i64 i2, AV.int IntKind.i64 (IntKind.wrap IntKind.i64 (i0 - ahd y2))] = v)) := by kernel_rfl
  exact ends_round hT 100000 (by kernel_rfl) (e.mpr H)

theorem t39_2 {v : AV} {n : Int} (hT : TabOk cfg (ctab [])) (H :
    gAnd (decide (0 ≤ IntKind.wrap IntKind.u8 (IntKind.wrap IntKind.i64 (48 + Int.tmod n 10))) && decide (IntKind.wrap IntKind.u8 (IntKind.wrap IntKind.i64 (48 + Int.tmod n 10)) < 256) && true) (gAnd (decide (0 ≤ IntKind.wrap IntKind.u8 (IntKind.wrap IntKind.i64 (48 + Int.tmod (IntKind.wrap IntKind.i64 (Int.tdiv n 10)) 10))) && decide (IntKind.wrap IntKind.u8 (IntKind.wrap IntKind.i64 (48 + Int.tmod (IntKind.wrap IntKind.i64 (Int.tdiv n 10)) 10)) < 256) && true) (AV.str [UInt8.ofNat (Int.toNat (IntKind.wrap IntKind.u8 (IntKind.wrap IntKind.i64 (48 + Int.tmod (IntKind.wrap IntKind.i64 (Int.tdiv n 10)) 10)))), UInt8.ofNat (Int.toNat (IntKind.wrap IntKind.u8 (IntKind.wrap IntKind.i64 (48 + Int.tmod n 10))))] = v))) :
    ToEnd cfg 39 (bodyOf Tryd.f39) (RetIs Tryd.prog Tryd.f39 v) ([.code []]) .normal ([(0, true, .int .i64 n), (1, true, .int .i64 2)]) ([]) := by
  have e : unr cfg 39 (bodyOf Tryd.f39) (ctab []) ⟨[], []⟩ (RetIs Tryd.prog Tryd.f39 v) 100000 ([.code []]) .normal ([(0, true, .int .i64 n), (1, true, .int .i64 2)]) ([]) =
    (gAnd (decide (0 ≤ IntKind.wrap IntKind.u8 (IntKind.wrap IntKind.i64 (48 + Int.tmod n 10))) && decide (IntKind.wrap IntKind.u8 (IntKind.wrap IntKind.i64 (48 + Int.tmod n 10)) < 256) && true) (gAnd (decide (0 ≤ IntKind.wrap IntKind.u8 (IntKind.wrap IntKind.i64 (48 + Int.tmod (IntKind.wrap IntKind.i64 (Int.tdiv n 10)) 10))) && decide (IntKind.wrap IntKind.u8 (IntKind.wrap IntKind.i64 (48 + Int.tmod (IntKind.wrap IntKind.i64 (Int.tdiv n 10)) 10)) < 256) && true) (AV.str [UInt8.ofNat (Int.toNat (IntKind.wrap IntKind.u8 (IntKind.wrap IntKind.i64 (48 + Int.tmod (IntKind.wrap IntKind.i64 (Int.tdiv n 10)) 10)))), UInt8.ofNat (Int.toNat (IntKind.wrap IntKind.u8 (IntKind.wrap IntKind.i64 (48 + Int.tmod n 10))))] = v))) := by kernel_rfl
  exact unr_ok hT 100000 _ _ _ _ (e.mpr H)

theorem t36 {v : AV} {n : Int} {e : List (List AV)} (hT : TabOk cfg (ctab [])) (H :
    gAnd (inR (Int.tmod (IntKind.wrap IntKind.i64 (n + 3)) 7) (List.length e) && true && true) (∃ (s1 : List UInt8), getE e (Int.tmod (IntKind.wrap IntKind.i64 (n + 3)) 7) = [AV.str s1] ∧ AV.str s1 = v)) :
    ToEnd cfg 36 (bodyOf Tryd.f36) (RetIs Tryd.prog Tryd.f36 v) ([.code []]) .normal ([(0, true, .int .i64 n), (1, true, .sl 1 e none)]) ([]) := by
  have e : unr cfg 36 (bodyOf Tryd.f36) (ctab []) ⟨[], [([0, 1], 4, [.str])]⟩ (RetIs Tryd.prog Tryd.f36 v) 100000 ([.code []]) .normal ([(0, true, .int .i64 n), (1, true, .sl 1 e none)]) ([]) =
    (gAnd (inR (Int.tmod (IntKind.wrap IntKind.i64 (n + 3)) 7) (List.length e) && true && true) (∃ (s1 : List UInt8), getE e (Int.tmod (IntKind.wrap IntKind.i64 (n + 3)) 7) = [AV.str s1] ∧ AV.str s1 = v)) := by kernel_rfl
  exact unr_ok hT 100000 _ _ _ _ (e.mpr H)

end Go.Proofs.YtnefabbpjepppaaDoor
