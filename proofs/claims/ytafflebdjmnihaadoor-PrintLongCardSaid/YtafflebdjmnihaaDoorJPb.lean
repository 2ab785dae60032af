/-
  Runs of the functions of trees, printed by a home tool; each is the kernel's word.
  Which trees are pages: the small functions keep to their contracts.
  Runs of the functions of trees, printed by a home tool; each is the kernel's word.
  Which trees are pages: texts of nodes.
-/
import Derived.Test.YtafflebdjmnihaaDoorCfg
import Derived.Test.YtafflebdjmnihaaDoorJPa
section
namespace Go.Proofs.YtafflebdjmnihaaDoor
open Go.Ai Go
set_option maxRecDepth 100000
set_option linter.unusedVariables false
theorem t28 {v : AV} {k : Int} (hT : TabOk cfg (ctab [])) (H :
    ifP (decide (k ≥ 2)) (AV.bool (decide (k ≤ 6)) = v) (AV.bool false = v)) :
    ToEnd cfg 28 (bodyOf Tryd.f28) (RetIs Tryd.prog Tryd.f28 v) ([.code []]) .normal ([(0, true, .int .i64 k)]) ([]) := by
  have e : unr cfg 28 (bodyOf Tryd.f28) (ctab []) ⟨[], []⟩ (RetIs Tryd.prog Tryd.f28 v) 100000 ([.code []]) .normal ([(0, true, .int .i64 k)]) ([]) =
    (ifP (decide (k ≥ 2)) (AV.bool (decide (k ≤ 6)) = v) (AV.bool false = v)) := by kernel_rfl
  exact unr_ok hT 100000 _ _ _ _ (e.mpr H)

theorem t57a {v : AV} {e : List (List AV)} {k : Int} (hT : TabOk cfg (ctab [])) (H :
    ToEnd cfg 57 (bodyOf Tryd.f57) (RetIs Tryd.prog Tryd.f57 v) [Fm.code [0, 1, 0, 1], Fm.block 0, Fm.code [1, 1]] XT.normal [(0, true, AV.sl 1 e none), (1, true, AV.int IntKind.i64 k), (7, true, AV.int IntKind.i64 (↑(List.length e) : Int)), (8, true, AV.int IntKind.i64 0)] []) :
    ToEnd cfg 57 (bodyOf Tryd.f57) (RetIs Tryd.prog Tryd.f57 v) ([.code []]) .normal ([(0, true, .sl 1 e none), (1, true, .int .i64 k)]) ([]) := by
  have e : unr cfg 57 (bodyOf Tryd.f57) (ctab []) ⟨[[0, 1, 0, 1]], [([0, 1, 0, 0, 1, 1, 0, 0, 1, 0, 1], 3, [.int .i64])]⟩ (RetIs Tryd.prog Tryd.f57 v) 100000 ([.code []]) .normal ([(0, true, .sl 1 e none), (1, true, .int .i64 k)]) ([]) =
    (ToEnd cfg 57 (bodyOf Tryd.f57) (RetIs Tryd.prog Tryd.f57 v) [Fm.code [0, 1, 0, 1], Fm.block 0, Fm.code [1, 1]] XT.normal [(0, true, AV.sl 1 e none), (1, true, AV.int IntKind.i64 k), (7, true, AV.int IntKind.i64 (↑(List.length e) : Int)), (8, true, AV.int IntKind.i64 0)] []) := by kernel_rfl
  exact unr_ok hT 100000 _ _ _ _ (e.mpr H)

theorem t57b {v : AV} {e : List (List AV)}  {i1 : Int} {i7 : Int} {i8 : Int} (hT : TabOk cfg (ctab [])) (H :
    ifP (decide (i8 < i7)) (gAnd (inR i8 (List.length e) && true && true) (∃ (z1 : Int), getE e i8 = [AV.int IntKind.i64 z1] ∧ ifP (i1 == z1) (AV.int IntKind.i64 i8 = v) (gAnd (lowVss 0 e && true && true && true) (ToEnd cfg 57 (bodyOf Tryd.f57) (RetIs Tryd.prog Tryd.f57 v) [Fm.code [0, 1, 0, 1], Fm.block 0, Fm.code [1, 1]] XT.normal [(0, true, AV.sl 1 e none), (1, true, AV.int IntKind.i64 i1), (7, true, AV.int IntKind.i64 i7), (8, true, AV.int IntKind.i64 (IntKind.wrap IntKind.i64 (i8 + 1)))] [])))) (AV.int IntKind.i64 (-1) = v)) :
    ToEnd cfg 57 (bodyOf Tryd.f57) (RetIs Tryd.prog Tryd.f57 v) ([.code [0, 1, 0, 1], Fm.block 0, Fm.code [1, 1]]) .normal ([(0, true, AV.sl 1 e none), (1, true, AV.int IntKind.i64 i1), (7, true, AV.int IntKind.i64 i7), (8, true, AV.int IntKind.i64 i8)]) ([]) := by
  have e : unr cfg 57 (bodyOf Tryd.f57) (ctab []) ⟨[[0, 1, 0, 1]], [([0, 1, 0, 0, 1, 1, 0, 0, 1, 0, 1], 3, [.int .i64])]⟩ (RetIs Tryd.prog Tryd.f57 v) 100000 ([.code [0, 0, 1, 0, 1], .loop [0, 1, 0, 1] 0, Fm.block 0, Fm.code [1, 1]]) .normal ([(0, true, AV.sl 1 e none), (1, true, AV.int IntKind.i64 i1), (7, true, AV.int IntKind.i64 i7), (8, true, AV.int IntKind.i64 i8)]) ([]) =
    (ifP (decide (i8 < i7)) (gAnd (inR i8 (List.length e) && true && true) (∃ (z1 : Int), getE e i8 = [AV.int IntKind.i64 z1] ∧ ifP (i1 == z1) (AV.int IntKind.i64 i8 = v) (gAnd (lowVss 0 e && true && true && true) (ToEnd cfg 57 (bodyOf Tryd.f57) (RetIs Tryd.prog Tryd.f57 v) [Fm.code [0, 1, 0, 1], Fm.block 0, Fm.code [1, 1]] XT.normal [(0, true, AV.sl 1 e none), (1, true, AV.int IntKind.i64 i1), (7, true, AV.int IntKind.i64 i7), (8, true, AV.int IntKind.i64 (IntKind.wrap IntKind.i64 (i8 + 1)))] [])))) (AV.int IntKind.i64 (-1) = v)) := by kernel_rfl
  exact ends_round hT 100000 (by kernel_rfl) (e.mpr H)

theorem t49 {v : AV} {e : List (List AV)} {k : Int} (hT : TabOk cfg (ctab [(57, ixIC)])) (H :
    ∃ (l1 : List Int), ∃ (k2 : Int), List.length l1 ≤ 9223372036854775807 ∧ [AV.sl 1 (stripss 0 [] e) none, AV.int IntKind.i64 k] = [AV.sl 1 (encI l1) none, AV.int IntKind.i64 k2] ∧ AV.bool (decide (ixOf (fun (x : Int) ↦ k2 == x) l1 0 ≥ 0)) = v) :
    ToEnd cfg 49 (bodyOf Tryd.f49) (RetIs Tryd.prog Tryd.f49 v) ([.code []]) .normal ([(0, true, .sl 1 e none), (1, true, .int .i64 k)]) ([]) := by
  have e : unr cfg 49 (bodyOf Tryd.f49) (ctab [(57, ixIC)]) ⟨[], []⟩ (RetIs Tryd.prog Tryd.f49 v) 100000 ([.code []]) .normal ([(0, true, .sl 1 e none), (1, true, .int .i64 k)]) ([]) =
    (∃ (l1 : List Int), ∃ (k2 : Int), List.length l1 ≤ 9223372036854775807 ∧ [AV.sl 1 (stripss 0 [] e) none, AV.int IntKind.i64 k] = [AV.sl 1 (encI l1) none, AV.int IntKind.i64 k2] ∧ AV.bool (decide (ixOf (fun (x : Int) ↦ k2 == x) l1 0 ≥ 0)) = v) := by kernel_rfl
  exact unr_ok hT 100000 _ _ _ _ (e.mpr H)

theorem t39 {v : AV} {k : Int} (hT : TabOk cfg (ctab [(49, hasIC)])) (H :
    ∃ (l1 : List Int), ∃ (k2 : Int), List.length l1 ≤ 9223372036854775807 ∧ [AV.sl 1 [[AV.int IntKind.i64 2], [AV.int IntKind.i64 3], [AV.int IntKind.i64 4], [AV.int IntKind.i64 5], [AV.int IntKind.i64 6], [AV.int IntKind.i64 7], [AV.int IntKind.i64 10], [AV.int IntKind.i64 13], [AV.int IntKind.i64 14]] none, AV.int IntKind.i64 k] = [AV.sl 1 (encI l1) none, AV.int IntKind.i64 k2] ∧ AV.bool (List.any l1 fun (x : Int) ↦ k2 == x) = v) :
    ToEnd cfg 39 (bodyOf Tryd.f39) (RetIs Tryd.prog Tryd.f39 v) ([.code []]) .normal ([(0, true, .int .i64 k)]) ([]) := by
  have e : unr cfg 39 (bodyOf Tryd.f39) (ctab [(49, hasIC)]) ⟨[], []⟩ (RetIs Tryd.prog Tryd.f39 v) 100000 ([.code []]) .normal ([(0, true, .int .i64 k)]) ([]) =
    (∃ (l1 : List Int), ∃ (k2 : Int), List.length l1 ≤ 9223372036854775807 ∧ [AV.sl 1 [[AV.int IntKind.i64 2], [AV.int IntKind.i64 3], [AV.int IntKind.i64 4], [AV.int IntKind.i64 5], [AV.int IntKind.i64 6], [AV.int IntKind.i64 7], [AV.int IntKind.i64 10], [AV.int IntKind.i64 13], [AV.int IntKind.i64 14]] none, AV.int IntKind.i64 k] = [AV.sl 1 (encI l1) none, AV.int IntKind.i64 k2] ∧ AV.bool (List.any l1 fun (x : Int) ↦ k2 == x) = v) := by kernel_rfl
  exact unr_ok hT 100000 _ _ _ _ (e.mpr H)

theorem t55a {v : AV} {e : List (List AV)} {k : List UInt8} (hT : TabOk cfg (ctab [])) (H :
    ToEnd cfg 55 (bodyOf Tryd.f55) (RetIs Tryd.prog Tryd.f55 v) [Fm.code [0, 1, 0, 1], Fm.block 0, Fm.code [1, 1]] XT.normal [(0, true, AV.sl 1 e none), (1, true, AV.str k), (7, true, AV.int IntKind.i64 (↑(List.length e) : Int)), (8, true, AV.int IntKind.i64 0)] []) :
    ToEnd cfg 55 (bodyOf Tryd.f55) (RetIs Tryd.prog Tryd.f55 v) ([.code []]) .normal ([(0, true, .sl 1 e none), (1, true, .str k)]) ([]) := by
  have e : unr cfg 55 (bodyOf Tryd.f55) (ctab []) ⟨[[0, 1, 0, 1]], [([0, 1, 0, 0, 1, 1, 0, 0, 1, 0, 1], 3, [.str])]⟩ (RetIs Tryd.prog Tryd.f55 v) 100000 ([.code []]) .normal ([(0, true, .sl 1 e none), (1, true, .str k)]) ([]) =
    (ToEnd cfg 55 (bodyOf Tryd.f55) (RetIs Tryd.prog Tryd.f55 v) [Fm.code [0, 1, 0, 1], Fm.block 0, Fm.code [1, 1]] XT.normal [(0, true, AV.sl 1 e none), (1, true, AV.str k), (7, true, AV.int IntKind.i64 (↑(List.length e) : Int)), (8, true, AV.int IntKind.i64 0)] []) := by kernel_rfl
  exact unr_ok hT 100000 _ _ _ _ (e.mpr H)

theorem t55b {v : AV} {e : List (List AV)}  {s1 : List UInt8} {i7 : Int} {i8 : Int} (hT : TabOk cfg (ctab [])) (H :
    ifP (decide (i8 < i7)) (gAnd (inR i8 (List.length e) && true && true) (∃ (s1_1 : List UInt8), getE e i8 = [AV.str s1_1] ∧ ifP (s1 == s1_1) (AV.int IntKind.i64 i8 = v) (gAnd (lowVss 0 e && true && true && true) (ToEnd cfg 55 (bodyOf Tryd.f55) (RetIs Tryd.prog Tryd.f55 v) [Fm.code [0, 1, 0, 1], Fm.block 0, Fm.code [1, 1]] XT.normal [(0, true, AV.sl 1 e none), (1, true, AV.str s1), (7, true, AV.int IntKind.i64 i7), (8, true, AV.int IntKind.i64 (IntKind.wrap IntKind.i64 (i8 + 1)))] [])))) (AV.int IntKind.i64 (-1) = v)) :
    ToEnd cfg 55 (bodyOf Tryd.f55) (RetIs Tryd.prog Tryd.f55 v) ([.code [0, 1, 0, 1], Fm.block 0, Fm.code [1, 1]]) .normal ([(0, true, AV.sl 1 e none), (1, true, AV.str s1), (7, true, AV.int IntKind.i64 i7), (8, true, AV.int IntKind.i64 i8)]) ([]) := by
  have e : unr cfg 55 (bodyOf Tryd.f55) (ctab []) ⟨[[0, 1, 0, 1]], [([0, 1, 0, 0, 1, 1, 0, 0, 1, 0, 1], 3, [.str])]⟩ (RetIs Tryd.prog Tryd.f55 v) 100000 ([.code [0, 0, 1, 0, 1], .loop [0, 1, 0, 1] 0, Fm.block 0, Fm.code [1, 1]]) .normal ([(0, true, AV.sl 1 e none), (1, true, AV.str s1), (7, true, AV.int IntKind.i64 i7), (8, true, AV.int IntKind.i64 i8)]) ([]) =
    (ifP (decide (i8 < i7)) (gAnd (inR i8 (List.length e) && true && true) (∃ (s1_1 : List UInt8), getE e i8 = [AV.str s1_1] ∧ ifP (s1 == s1_1) (AV.int IntKind.i64 i8 = v) (gAnd (lowVss 0 e && true && true && true) (ToEnd cfg 55 (bodyOf Tryd.f55) (RetIs Tryd.prog Tryd.f55 v) [Fm.code [0, 1, 0, 1], Fm.block 0, Fm.code [1, 1]] XT.normal [(0, true, AV.sl 1 e none), (1, true, AV.str s1), (7, true, AV.int IntKind.i64 i7), (8, true, AV.int IntKind.i64 (IntKind.wrap IntKind.i64 (i8 + 1)))] [])))) (AV.int IntKind.i64 (-1) = v)) := by kernel_rfl
  exact ends_round hT 100000 (by kernel_rfl) (e.mpr H)

theorem t46 {v : AV} {e : List (List AV)} {k : List UInt8} (hT : TabOk cfg (ctab [(55, ixSC)])) (H :
    ∃ (l1 : List (List UInt8)), ∃ (k2 : List UInt8), List.length l1 ≤ 9223372036854775807 ∧ [AV.sl 1 (stripss 0 [] e) none, AV.str k] = [AV.sl 1 (encT l1) none, AV.str k2] ∧ AV.bool (decide (ixOf (fun (x : List UInt8) ↦ k2 == x) l1 0 ≥ 0)) = v) :
    ToEnd cfg 46 (bodyOf Tryd.f46) (RetIs Tryd.prog Tryd.f46 v) ([.code []]) .normal ([(0, true, .sl 1 e none), (1, true, .str k)]) ([]) := by
  have e : unr cfg 46 (bodyOf Tryd.f46) (ctab [(55, ixSC)]) ⟨[], []⟩ (RetIs Tryd.prog Tryd.f46 v) 100000 ([.code []]) .normal ([(0, true, .sl 1 e none), (1, true, .str k)]) ([]) =
    (∃ (l1 : List (List UInt8)), ∃ (k2 : List UInt8), List.length l1 ≤ 9223372036854775807 ∧ [AV.sl 1 (stripss 0 [] e) none, AV.str k] = [AV.sl 1 (encT l1) none, AV.str k2] ∧ AV.bool (decide (ixOf (fun (x : List UInt8) ↦ k2 == x) l1 0 ≥ 0)) = v) := by kernel_rfl
  exact unr_ok hT 100000 _ _ _ _ (e.mpr H)

theorem t36 {v : AV} {e : List (List AV)} {k : List UInt8} (hT : TabOk cfg (ctab [(46, hasSC)])) (H :
    ∃ (l1 : List (List UInt8)), ∃ (k2 : List UInt8), List.length l1 ≤ 9223372036854775807 ∧ [AV.sl 1 (stripss 0 [] e) none, AV.str k] = [AV.sl 1 (encT l1) none, AV.str k2] ∧ AV.bool (List.any l1 fun (x : List UInt8) ↦ k2 == x) = v) :
    ToEnd cfg 36 (bodyOf Tryd.f36) (RetIs Tryd.prog Tryd.f36 v) ([.code []]) .normal ([(0, true, .sl 1 e none), (1, true, .str k)]) ([]) := by
  have e : unr cfg 36 (bodyOf Tryd.f36) (ctab [(46, hasSC)]) ⟨[], []⟩ (RetIs Tryd.prog Tryd.f36 v) 100000 ([.code []]) .normal ([(0, true, .sl 1 e none), (1, true, .str k)]) ([]) =
    (∃ (l1 : List (List UInt8)), ∃ (k2 : List UInt8), List.length l1 ≤ 9223372036854775807 ∧ [AV.sl 1 (stripss 0 [] e) none, AV.str k] = [AV.sl 1 (encT l1) none, AV.str k2] ∧ AV.bool (List.any l1 fun (x : List UInt8) ↦ k2 == x) = v) := by kernel_rfl
  exact unr_ok hT 100000 _ _ _ _ (e.mpr H)

theorem t35 {v : AV} {k : List UInt8} (hT : TabOk cfg (ctab [])) (H :
    (AV.bool !k == []) = v) :
    ToEnd cfg 35 (bodyOf Tryd.f35) (RetIs Tryd.prog Tryd.f35 v) ([.code []]) .normal ([(0, true, .str k)]) ([]) := by
  have e : unr cfg 35 (bodyOf Tryd.f35) (ctab []) ⟨[], []⟩ (RetIs Tryd.prog Tryd.f35 v) 100000 ([.code []]) .normal ([(0, true, .str k)]) ([]) =
    ((AV.bool !k == []) = v) := by kernel_rfl
  exact unr_ok hT 100000 _ _ _ _ (e.mpr H)

theorem t37 {v : AV} {k : List UInt8} (hT : TabOk cfg (ctab [])) (H :
    AV.bool true = v) :
    ToEnd cfg 37 (bodyOf Tryd.f37) (RetIs Tryd.prog Tryd.f37 v) ([.code []]) .normal ([(0, true, .str k)]) ([]) := by
  have e : unr cfg 37 (bodyOf Tryd.f37) (ctab []) ⟨[], []⟩ (RetIs Tryd.prog Tryd.f37 v) 100000 ([.code []]) .normal ([(0, true, .str k)]) ([]) =
    (AV.bool true = v) := by kernel_rfl
  exact unr_ok hT 100000 _ _ _ _ (e.mpr H)

theorem t29 {v : AV} {p k i n : Int} (hT : TabOk cfg (ctab [(39, contentC)])) (H :
    ifP (p == 7) (gAnd (inR (min i 1) 2 && true && true) (∃ (z1 : Int), getE [[AV.int IntKind.i64 8], [AV.int IntKind.i64 9]] (min i 1) = [AV.int IntKind.i64 z1] ∧ ifP (k == z1) (AV.bool (decide (i < 2)) = v) (AV.bool false = v))) (ifP (p == 10) (ifP (k == 11) (AV.bool true = v) (ifP (k == 12) (ifP (decide (i > 0)) (AV.bool (i == IntKind.wrap IntKind.i64 (n - 1)) = v) (AV.bool false = v)) (AV.bool false = v))) (∃ (k2 : Int), [AV.int IntKind.i64 k] = [AV.int IntKind.i64 k2] ∧ AV.bool (contentB k2) = v))) :
    ToEnd cfg 29 (bodyOf Tryd.f29) (RetIs Tryd.prog Tryd.f29 v) ([.code []]) .normal ([(0, true, .int .i64 p), (1, true, .int .i64 k), (2, true, .int .i64 i), (3, true, .int .i64 n)]) ([]) := by
  have e : unr cfg 29 (bodyOf Tryd.f29) (ctab [(39, contentC)]) ⟨[], [([0, 0, 1, 0, 1, 0, 1], 4, [.int .i64])]⟩ (RetIs Tryd.prog Tryd.f29 v) 100000 ([.code []]) .normal ([(0, true, .int .i64 p), (1, true, .int .i64 k), (2, true, .int .i64 i), (3, true, .int .i64 n)]) ([]) =
    (ifP (p == 7) (gAnd (inR (min i 1) 2 && true && true) (∃ (z1 : Int), getE [[AV.int IntKind.i64 8], [AV.int IntKind.i64 9]] (min i 1) = [AV.int IntKind.i64 z1] ∧ ifP (k == z1) (AV.bool (decide (i < 2)) = v) (AV.bool false = v))) (ifP (p == 10) (ifP (k == 11) (AV.bool true = v) (ifP (k == 12) (ifP (decide (i > 0)) (AV.bool (i == IntKind.wrap IntKind.i64 (n - 1)) = v) (AV.bool false = v)) (AV.bool false = v))) (∃ (k2 : Int), [AV.int IntKind.i64 k] = [AV.int IntKind.i64 k2] ∧ AV.bool (contentB k2) = v))) := by kernel_rfl
  exact unr_ok hT 100000 _ _ _ _ (e.mpr H)

end Go.Proofs.YtafflebdjmnihaaDoor
end

section
namespace Go.Proofs.YtafflebdjmnihaaDoor
open Go.Ai Go
set_option linter.unusedSimpArgs false
set_option linter.unusedVariables false
set_option maxRecDepth 100000

theorem pf28 : pureFn cfg 28 Tryd.f28 := ⟨by kernel_rfl, by kernel_rfl, by kernel_rfl, by kernel_rfl, by kernel_rfl, by kernel_rfl⟩
theorem pf57 : pureFn cfg 57 Tryd.f57 := ⟨by kernel_rfl, by kernel_rfl, by kernel_rfl, by kernel_rfl, by kernel_rfl, by kernel_rfl⟩
theorem pf49 : pureFn cfg 49 Tryd.f49 := ⟨by kernel_rfl, by kernel_rfl, by kernel_rfl, by kernel_rfl, by kernel_rfl, by kernel_rfl⟩
theorem pf39 : pureFn cfg 39 Tryd.f39 := ⟨by kernel_rfl, by kernel_rfl, by kernel_rfl, by kernel_rfl, by kernel_rfl, by kernel_rfl⟩
theorem pf55 : pureFn cfg 55 Tryd.f55 := ⟨by kernel_rfl, by kernel_rfl, by kernel_rfl, by kernel_rfl, by kernel_rfl, by kernel_rfl⟩
theorem pf46 : pureFn cfg 46 Tryd.f46 := ⟨by kernel_rfl, by kernel_rfl, by kernel_rfl, by kernel_rfl, by kernel_rfl, by kernel_rfl⟩
theorem pf36 : pureFn cfg 36 Tryd.f36 := ⟨by kernel_rfl, by kernel_rfl, by kernel_rfl, by kernel_rfl, by kernel_rfl, by kernel_rfl⟩
theorem pf35 : pureFn cfg 35 Tryd.f35 := ⟨by kernel_rfl, by kernel_rfl, by kernel_rfl, by kernel_rfl, by kernel_rfl, by kernel_rfl⟩
theorem pf37 : pureFn cfg 37 Tryd.f37 := ⟨by kernel_rfl, by kernel_rfl, by kernel_rfl, by kernel_rfl, by kernel_rfl, by kernel_rfl⟩
theorem pf29 : pureFn cfg 29 Tryd.f29 := ⟨by kernel_rfl, by kernel_rfl, by kernel_rfl, by kernel_rfl, by kernel_rfl, by kernel_rfl⟩

theorem pure_encI (l : List Int) : pureV.pureVss (encI l) = true := by
  unfold encI
  induction l with
  | nil => rfl
  | cons a r ih => simp only [List.map_cons, pureV.pureVss, pureV.pureVs, pureV, ih, Bool.true_and]
theorem pure_encT (l : List (List UInt8)) : pureV.pureVss (encT l) = true := by
  unfold encT
  induction l with
  | nil => rfl
  | cons a r ih => simp only [List.map_cons, pureV.pureVss, pureV.pureVs, pureV, ih, Bool.true_and]
theorem stripIs (n : Nat) (h : Hp) (l : List Int) : stripss n h (encI l) = encI l := stripss_pure _ _ _ (pure_encI l)
theorem stripTs (n : Nat) (h : Hp) (l : List (List UInt8)) : stripss n h (encT l) = encT l := stripss_pure _ _ _ (pure_encT l)
theorem lowIs (n : Nat) (l : List Int) : lowVss n (encI l) = true := lowss_pure n _ (pure_encI l)
theorem lowTs (n : Nat) (l : List (List UInt8)) : lowVss n (encT l) = true := lowss_pure n _ (pure_encT l)

theorem c19 : COk cfg 19 containsC := by
  refine cok_prim (by kernel_rfl) (by kernel_rfl) (by kernel_rfl : cfg.prim 19 = some pContains) (by kernel_rfl) fun vs h K ht => ?_
  obtain ⟨s, x, hs, rfl, hk⟩ := ht
  refine ⟨.bool (contB s x), hk, ?_⟩
  have e : Nat.blt s.length 4294967281 = true := Nat.ble_eq_true_of_le (by unfold tlim at hs; omega)
  simp only [pContains, e]
theorem c28 : COk cfg 28 leafC := by
  refine cok_pure pf28 fun vs h K ht => ?_
  obtain ⟨k, rfl, hk⟩ := ht
  refine ⟨_, hk, t28 (ctab_ok ctab_nil) (ifP_intro (fun a => ?_) fun a => ?_)⟩
  · rw [decide_eq_true_eq] at a
    unfold leafB
    rw [decide_eq_true (p := 2 ≤ k) (by omega)]; rfl
  · rw [decide_eq_false_iff_not] at a
    unfold leafB
    rw [decide_eq_false (p := 2 ≤ k) (by omega)]; rfl
theorem c35 : COk cfg 35 fullC := by
  refine cok_pure pf35 fun vs h K ht => ?_
  obtain ⟨s, rfl, hk⟩ := ht
  exact ⟨_, hk, t35 (ctab_ok ctab_nil) rfl⟩
theorem c37 : COk cfg 37 anyC := by
  refine cok_pure pf37 fun vs h K ht => ?_
  obtain ⟨s, rfl, hk⟩ := ht
  exact ⟨_, hk, t37 (ctab_ok ctab_nil) rfl⟩

theorem loop57 (k v : Int) : ∀ (r pre : List Int), (pre ++ r).length ≤ lim → v = ixOf (fun x => k == x) r (pre.length : Nat) →
    ToEnd cfg 57 (bodyOf Tryd.f57) (RetIs Tryd.prog Tryd.f57 (.int .i64 v)) [.code [0, 1, 0, 1], .block 0, .code [1, 1]] .normal
      [(0, true, .sl 1 (encI (pre ++ r)) none), (1, true, .int .i64 k), (7, true, .int .i64 ((pre ++ r).length : Nat)), (8, true, .int .i64 pre.length)] [] := by
  intro r
  induction r with
  | nil =>
    intro pre hl hk
    refine t57b (ctab_ok ctab_nil) (ifP_intro (fun hc => ?_) fun _ => ?_)
    · simp at hc
    · rw [hk]; rfl
  | cons x r ih =>
    intro pre hl hk
    have hlen : pre.length < lim := by simp at hl; omega
    have hin : inR (pre.length : Int) (encI (pre ++ x :: r)).length = true := inR_of (by omega) (by unfold encI; simp; omega)
    refine t57b (ctab_ok ctab_nil) (ifP_intro (fun _ => ?_) fun hc => ?_)
    · refine gAnd_intro (by rw [hin]; rfl) ⟨x, getE_pre _ _ _ _, ifP_intro (fun hq => ?_) fun hq => ?_⟩
      · rw [hk, ixOf, hq]; rfl
      · refine gAnd_intro (by rw [lowIs]; rfl) ?_
        rw [wrap_succ hlen]
        have := ih (pre ++ [x]) (by simpa using hl) (by rw [hk, ixOf, hq]; simp)
        simpa using this
    · simp at hc; omega
theorem c57 : COk cfg 57 ixIC := by
  refine cok_pure pf57 fun vs h K ht => ?_
  obtain ⟨l, k, hl, rfl, hk⟩ := ht
  refine ⟨_, hk, t57a (ctab_ok ctab_nil) ?_⟩
  have := loop57 k _ l [] hl rfl
  have e : (encI l).length = l.length := by unfold encI; simp
  rw [e]
  exact this
theorem c49 : COk cfg 49 hasIC := by
  refine cok_pure pf49 fun vs h K ht => ?_
  obtain ⟨l, k, hl, rfl, hk⟩ := ht
  refine ⟨_, hk, t49 (ctab_ok (ctab_cons c57 ctab_nil)) ⟨l, k, hl, by rw [stripIs], ?_⟩⟩
  exact congrArg AV.bool (ixOf_ge _ l 0 (Int.le_refl _))
theorem c39 : COk cfg 39 contentC := by
  refine cok_pure pf39 fun vs h K ht => ?_
  obtain ⟨k, rfl, hk⟩ := ht
  exact ⟨_, hk, t39 (ctab_ok (ctab_cons c49 ctab_nil)) ⟨kindsL, k, by decide, rfl, rfl⟩⟩

theorem loop55 (k : List UInt8) (v : Int) : ∀ (r pre : List (List UInt8)), (pre ++ r).length ≤ lim → v = ixOf (fun x => k == x) r (pre.length : Nat) →
    ToEnd cfg 55 (bodyOf Tryd.f55) (RetIs Tryd.prog Tryd.f55 (.int .i64 v)) [.code [0, 1, 0, 1], .block 0, .code [1, 1]] .normal
      [(0, true, .sl 1 (encT (pre ++ r)) none), (1, true, .str k), (7, true, .int .i64 ((pre ++ r).length : Nat)), (8, true, .int .i64 pre.length)] [] := by
  intro r
  induction r with
  | nil =>
    intro pre hl hk
    refine t55b (ctab_ok ctab_nil) (ifP_intro (fun hc => ?_) fun _ => ?_)
    · simp at hc
    · rw [hk]; rfl
  | cons x r ih =>
    intro pre hl hk
    have hlen : pre.length < lim := by simp at hl; omega
    have hin : inR (pre.length : Int) (encT (pre ++ x :: r)).length = true := inR_of (by omega) (by unfold encT; simp; omega)
    refine t55b (ctab_ok ctab_nil) (ifP_intro (fun _ => ?_) fun hc => ?_)
    · refine gAnd_intro (by rw [hin]; rfl) ⟨x, getE_pre _ _ _ _, ifP_intro (fun hq => ?_) fun hq => ?_⟩
      · rw [hk, ixOf, hq]; rfl
      · refine gAnd_intro (by rw [lowTs]; rfl) ?_
        rw [wrap_succ hlen]
        have := ih (pre ++ [x]) (by simpa using hl) (by rw [hk, ixOf, hq]; simp)
        simpa using this
    · simp at hc; omega
theorem c55 : COk cfg 55 ixSC := by
  refine cok_pure pf55 fun vs h K ht => ?_
  obtain ⟨l, k, hl, rfl, hk⟩ := ht
  refine ⟨_, hk, t55a (ctab_ok ctab_nil) ?_⟩
  have := loop55 k _ l [] hl rfl
  have e : (encT l).length = l.length := by unfold encT; simp
  rw [e]
  exact this
theorem c46 : COk cfg 46 hasSC := by
  refine cok_pure pf46 fun vs h K ht => ?_
  obtain ⟨l, k, hl, rfl, hk⟩ := ht
  refine ⟨_, hk, t46 (ctab_ok (ctab_cons c55 ctab_nil)) ⟨l, k, hl, by rw [stripTs], ?_⟩⟩
  exact congrArg AV.bool (ixOf_ge _ l 0 (Int.le_refl _))
theorem c36 : COk cfg 36 hasSC := by
  refine cok_pure pf36 fun vs h K ht => ?_
  obtain ⟨l, k, hl, rfl, hk⟩ := ht
  exact ⟨_, hk, t36 (ctab_ok (ctab_cons c46 ctab_nil)) ⟨l, k, hl, by rw [stripTs], rfl⟩⟩
theorem c29 : COk cfg 29 fitC := by
  refine cok_pure pf29 fun vs h K ht => ?_
  obtain ⟨p, k, i, n, h0, h1, h2, rfl, hk⟩ := ht
  refine ⟨_, hk, t29 (ctab_ok (ctab_cons c39 ctab_nil)) (ifP_intro (fun a => ?_) fun a => ?_)⟩
  · unfold fitB
    rw [a, cond_true]
    refine gAnd_intro (by rw [inR_of (by omega) (by omega)]; rfl) ?_
    by_cases hi : i = 0
    · subst hi
      refine ⟨8, rfl, ifP_intro (fun b => ?_) fun b => ?_⟩
      · rw [if_pos rfl, b]; rfl
      · rw [if_pos rfl, b]; rfl
    · have e : min i 1 = 1 := by omega
      rw [e]
      refine ⟨9, rfl, ifP_intro (fun b => ?_) fun b => ?_⟩
      · rw [if_neg hi, b]; rfl
      · rw [if_neg hi, b]; rfl
  · unfold fitB
    rw [a, cond_false]
    refine ifP_intro (fun b => ?_) fun b => ?_
    · rw [b, cond_true]
      refine ifP_intro (fun c => by rw [c]; rfl) fun c => ?_
      rw [c]
      refine ifP_intro (fun d => ?_) fun d => by rw [d]; rfl
      rw [d]
      refine ifP_intro (fun e => ?_) fun e => ?_
      · rw [wrap_in (by omega) (by unfold lim at h2; omega), decide_eq_true (p := 0 < i) (by simpa using e)]; rfl
      · rw [decide_eq_false (p := 0 < i) (by simpa using e)]; rfl
    · rw [b, cond_false]
      exact ⟨k, rfl, rfl⟩
end Go.Proofs.YtafflebdjmnihaaDoor
end

section
namespace Go.Proofs.YtafflebdjmnihaaDoor
open Go.Ai Go
set_option maxRecDepth 100000
set_option linter.unusedVariables false
theorem t48 {K : AV → Hp → Prop} {s x : List UInt8} (hT : TabOk cfg (ctab [(19, containsC)])) (H :
    gAnd (decide (7 + List.length x ≤ 9223372036854775807)) (∃ (s1 : List UInt8), ∃ (x2 : List UInt8), List.length s1 ≤ 1000000 ∧ [AV.str s, AV.str (60 :: 33 :: 45 :: 45 :: 101 :: 115 :: 105 :: List.append [] x)] = [AV.str s1, AV.str x2] ∧ K (AV.bool (contB s1 x2)) [Blk.mem 9 [AV.str s], Blk.grow 4 1 9])) :
    ToEnd cfg 48 (bodyOf Tryd.f48) (RetIn Tryd.prog Tryd.f48 2 K) ([.code []]) .normal ([(0, true, .str x), (1, true, .ptr 0 0)]) ([.mem 9 [.str s], .grow 4 1 9]) := by
  have e : unr cfg 48 (bodyOf Tryd.f48) (ctab [(19, containsC)]) ⟨[], []⟩ (RetIn Tryd.prog Tryd.f48 2 K) 100000 ([.code []]) .normal ([(0, true, .str x), (1, true, .ptr 0 0)]) ([.mem 9 [.str s], .grow 4 1 9]) =
    (gAnd (decide (7 + List.length x ≤ 9223372036854775807)) (∃ (s1 : List UInt8), ∃ (x2 : List UInt8), List.length s1 ≤ 1000000 ∧ [AV.str s, AV.str (60 :: 33 :: 45 :: 45 :: 101 :: 115 :: 105 :: List.append [] x)] = [AV.str s1, AV.str x2] ∧ K (AV.bool (contB s1 x2)) [Blk.mem 9 [AV.str s], Blk.grow 4 1 9])) := by kernel_rfl
  exact unr_ok hT 100000 _ _ _ _ (e.mpr H)

theorem t56 {K : AV → Hp → Prop} {s : List UInt8} (hT : TabOk cfg (ctab [(48, tag1C)])) (H :
    ∃ (s1 : List UInt8), [AV.str [32]] = [AV.str s1] ∧ ∃ (s2 : List UInt8), ∃ (b3 : List UInt8), List.length s2 ≤ 1000000 ∧ List.length b3 ≤ 10 ∧ [Blk.mem 9 [AV.str s], Blk.grow 4 1 9] = [Blk.mem 9 [AV.str s2], Blk.grow 4 1 9] ∧ [AV.str s1, AV.ptr 0 0] = [AV.str b3, AV.ptr 0 0] ∧ ifP (contB s2 ([60, 33, 45, 45, 101, 115, 105] ++ b3)) (K (AV.int IntKind.i64 0) [Blk.mem 9 [AV.str s2], Blk.grow 4 1 9]) (∃ (s4 : List UInt8), [AV.str [9]] = [AV.str s4] ∧ ∃ (s5 : List UInt8), ∃ (b6 : List UInt8), List.length s5 ≤ 1000000 ∧ List.length b6 ≤ 10 ∧ [Blk.mem 9 [AV.str s2], Blk.grow 4 1 9] = [Blk.mem 9 [AV.str s5], Blk.grow 4 1 9] ∧ [AV.str s4, AV.ptr 0 0] = [AV.str b6, AV.ptr 0 0] ∧ ifP (contB s5 ([60, 33, 45, 45, 101, 115, 105] ++ b6)) (K (AV.int IntKind.i64 1) [Blk.mem 9 [AV.str s5], Blk.grow 4 1 9]) (∃ (s7 : List UInt8), [AV.str [10]] = [AV.str s7] ∧ ∃ (s8 : List UInt8), ∃ (b9 : List UInt8), List.length s8 ≤ 1000000 ∧ List.length b9 ≤ 10 ∧ [Blk.mem 9 [AV.str s5], Blk.grow 4 1 9] = [Blk.mem 9 [AV.str s8], Blk.grow 4 1 9] ∧ [AV.str s7, AV.ptr 0 0] = [AV.str b9, AV.ptr 0 0] ∧ ifP (contB s8 ([60, 33, 45, 45, 101, 115, 105] ++ b9)) (K (AV.int IntKind.i64 2) [Blk.mem 9 [AV.str s8], Blk.grow 4 1 9]) (∃ (s10 : List UInt8), [AV.str [13]] = [AV.str s10] ∧ ∃ (s11 : List UInt8), ∃ (b12 : List UInt8), List.length s11 ≤ 1000000 ∧ List.length b12 ≤ 10 ∧ [Blk.mem 9 [AV.str s8], Blk.grow 4 1 9] = [Blk.mem 9 [AV.str s11], Blk.grow 4 1 9] ∧ [AV.str s10, AV.ptr 0 0] = [AV.str b12, AV.ptr 0 0] ∧ ifP (contB s11 ([60, 33, 45, 45, 101, 115, 105] ++ b12)) (K (AV.int IntKind.i64 3) [Blk.mem 9 [AV.str s11], Blk.grow 4 1 9]) (K (AV.int IntKind.i64 (-1)) [Blk.mem 9 [AV.str s11], Blk.grow 4 1 9]))))) :
    ToEnd cfg 56 (bodyOf Tryd.f56) (RetIn Tryd.prog Tryd.f56 2 K) ([.code []]) .normal ([(0, true, .sl 1 [[.str [32]], [.str [9]], [.str [10]], [.str [13]]] (some 1)), (1, true, .fn (.func 48) [] [.ptr 0 0])]) ([.mem 9 [.str s], .grow 4 1 9]) := by
  have e : unr cfg 56 (bodyOf Tryd.f56) (ctab [(48, tag1C)]) ⟨[], [([0, 1, 0, 0, 1, 1, 0, 0, 1, 0, 1], 3, [.str])]⟩ (RetIn Tryd.prog Tryd.f56 2 K) 100000 ([.code []]) .normal ([(0, true, .sl 1 [[.str [32]], [.str [9]], [.str [10]], [.str [13]]] (some 1)), (1, true, .fn (.func 48) [] [.ptr 0 0])]) ([.mem 9 [.str s], .grow 4 1 9]) =
    (∃ (s1 : List UInt8), [AV.str [32]] = [AV.str s1] ∧ ∃ (s2 : List UInt8), ∃ (b3 : List UInt8), List.length s2 ≤ 1000000 ∧ List.length b3 ≤ 10 ∧ [Blk.mem 9 [AV.str s], Blk.grow 4 1 9] = [Blk.mem 9 [AV.str s2], Blk.grow 4 1 9] ∧ [AV.str s1, AV.ptr 0 0] = [AV.str b3, AV.ptr 0 0] ∧ ifP (contB s2 ([60, 33, 45, 45, 101, 115, 105] ++ b3)) (K (AV.int IntKind.i64 0) [Blk.mem 9 [AV.str s2], Blk.grow 4 1 9]) (∃ (s4 : List UInt8), [AV.str [9]] = [AV.str s4] ∧ ∃ (s5 : List UInt8), ∃ (b6 : List UInt8), List.length s5 ≤ 1000000 ∧ List.length b6 ≤ 10 ∧ [Blk.mem 9 [AV.str s2], Blk.grow 4 1 9] = [Blk.mem 9 [AV.str s5], Blk.grow 4 1 9] ∧ [AV.str s4, AV.ptr 0 0] = [AV.str b6, AV.ptr 0 0] ∧ ifP (contB s5 ([60, 33, 45, 45, 101, 115, 105] ++ b6)) (K (AV.int IntKind.i64 1) [Blk.mem 9 [AV.str s5], Blk.grow 4 1 9]) (∃ (s7 : List UInt8), [AV.str [10]] = [AV.str s7] ∧ ∃ (s8 : List UInt8), ∃ (b9 : List UInt8), List.length s8 ≤ 1000000 ∧ List.length b9 ≤ 10 ∧ [Blk.mem 9 [AV.str s5], Blk.grow 4 1 9] = [Blk.mem 9 [AV.str s8], Blk.grow 4 1 9] ∧ [AV.str s7, AV.ptr 0 0] = [AV.str b9, AV.ptr 0 0] ∧ ifP (contB s8 ([60, 33, 45, 45, 101, 115, 105] ++ b9)) (K (AV.int IntKind.i64 2) [Blk.mem 9 [AV.str s8], Blk.grow 4 1 9]) (∃ (s10 : List UInt8), [AV.str [13]] = [AV.str s10] ∧ ∃ (s11 : List UInt8), ∃ (b12 : List UInt8), List.length s11 ≤ 1000000 ∧ List.length b12 ≤ 10 ∧ [Blk.mem 9 [AV.str s8], Blk.grow 4 1 9] = [Blk.mem 9 [AV.str s11], Blk.grow 4 1 9] ∧ [AV.str s10, AV.ptr 0 0] = [AV.str b12, AV.ptr 0 0] ∧ ifP (contB s11 ([60, 33, 45, 45, 101, 115, 105] ++ b12)) (K (AV.int IntKind.i64 3) [Blk.mem 9 [AV.str s11], Blk.grow 4 1 9]) (K (AV.int IntKind.i64 (-1)) [Blk.mem 9 [AV.str s11], Blk.grow 4 1 9]))))) := by kernel_rfl
  exact unr_ok hT 100000 _ _ _ _ (e.mpr H)

theorem t47 {K : AV → Hp → Prop} {s : List UInt8} (hT : TabOk cfg (ctab [(56, tagIxC)])) (H :
    ∃ (s1 : List UInt8), List.length s1 ≤ 1000000 ∧ [Blk.mem 9 [AV.str s], Blk.grow 4 1 9] = [Blk.mem 9 [AV.str s1], Blk.grow 4 1 9] ∧ [AV.sl 1 [[AV.str [32]], [AV.str [9]], [AV.str [10]], [AV.str [13]]] (some 1), AV.fn (Fn.func 48) [] [AV.ptr 0 0]] = [AV.sl 1 [[AV.str [32]], [AV.str [9]], [AV.str [10]], [AV.str [13]]] (some 1), AV.fn (Fn.func 48) [] [AV.ptr 0 0]] ∧ K (AV.bool (decide (ixOf (fun (b : List UInt8) ↦ contB s1 ([60, 33, 45, 45, 101, 115, 105] ++ b)) blanksL 0 ≥ 0))) [Blk.mem 9 [AV.str s1], Blk.grow 4 1 9]) :
    ToEnd cfg 47 (bodyOf Tryd.f47) (RetIn Tryd.prog Tryd.f47 2 K) ([.code []]) .normal ([(0, true, .sl 1 [[.str [32]], [.str [9]], [.str [10]], [.str [13]]] (some 1)), (1, true, .fn (.func 48) [] [.ptr 0 0])]) ([.mem 9 [.str s], .grow 4 1 9]) := by
  have e : unr cfg 47 (bodyOf Tryd.f47) (ctab [(56, tagIxC)]) ⟨[], []⟩ (RetIn Tryd.prog Tryd.f47 2 K) 100000 ([.code []]) .normal ([(0, true, .sl 1 [[.str [32]], [.str [9]], [.str [10]], [.str [13]]] (some 1)), (1, true, .fn (.func 48) [] [.ptr 0 0])]) ([.mem 9 [.str s], .grow 4 1 9]) =
    (∃ (s1 : List UInt8), List.length s1 ≤ 1000000 ∧ [Blk.mem 9 [AV.str s], Blk.grow 4 1 9] = [Blk.mem 9 [AV.str s1], Blk.grow 4 1 9] ∧ [AV.sl 1 [[AV.str [32]], [AV.str [9]], [AV.str [10]], [AV.str [13]]] (some 1), AV.fn (Fn.func 48) [] [AV.ptr 0 0]] = [AV.sl 1 [[AV.str [32]], [AV.str [9]], [AV.str [10]], [AV.str [13]]] (some 1), AV.fn (Fn.func 48) [] [AV.ptr 0 0]] ∧ K (AV.bool (decide (ixOf (fun (b : List UInt8) ↦ contB s1 ([60, 33, 45, 45, 101, 115, 105] ++ b)) blanksL 0 ≥ 0))) [Blk.mem 9 [AV.str s1], Blk.grow 4 1 9]) := by kernel_rfl
  exact unr_ok hT 100000 _ _ _ _ (e.mpr H)

theorem t38 {v : AV} {s : List UInt8} (hT : TabOk cfg (ctab [(19, containsC), (47, tagAnyC)])) (H :
    ∃ (s1 : List UInt8), ∃ (x2 : List UInt8), List.length s1 ≤ 1000000 ∧ [AV.str s, AV.str [60, 101, 115, 105, 58]] = [AV.str s1, AV.str x2] ∧ ifP (contB s1 x2) (AV.bool true = v) (∃ (s3 : List UInt8), ∃ (x4 : List UInt8), List.length s3 ≤ 1000000 ∧ [AV.str s, AV.str [60, 47, 101, 115, 105, 58]] = [AV.str s3, AV.str x4] ∧ ifP (contB s3 x4) (AV.bool true = v) (∃ (s5 : List UInt8), List.length s5 ≤ 1000000 ∧ [Blk.mem 9 [AV.str s], Blk.grow 4 1 9] = [Blk.mem 9 [AV.str s5], Blk.grow 4 1 9] ∧ [AV.sl 1 [[AV.str [32]], [AV.str [9]], [AV.str [10]], [AV.str [13]]] (some 1), AV.fn (Fn.func 48) [] [AV.ptr 0 0]] = [AV.sl 1 [[AV.str [32]], [AV.str [9]], [AV.str [10]], [AV.str [13]]] (some 1), AV.fn (Fn.func 48) [] [AV.ptr 0 0]] ∧ AV.bool (List.any blanksL fun (b : List UInt8) ↦ contB s5 ([60, 33, 45, 45, 101, 115, 105] ++ b)) = v))) :
    ToEnd cfg 38 (bodyOf Tryd.f38) (RetIs Tryd.prog Tryd.f38 v) ([.code []]) .normal ([(0, true, .str s)]) ([]) := by
  have e : unr cfg 38 (bodyOf Tryd.f38) (ctab [(19, containsC), (47, tagAnyC)]) ⟨[], []⟩ (RetIs Tryd.prog Tryd.f38 v) 100000 ([.code []]) .normal ([(0, true, .str s)]) ([]) =
    (∃ (s1 : List UInt8), ∃ (x2 : List UInt8), List.length s1 ≤ 1000000 ∧ [AV.str s, AV.str [60, 101, 115, 105, 58]] = [AV.str s1, AV.str x2] ∧ ifP (contB s1 x2) (AV.bool true = v) (∃ (s3 : List UInt8), ∃ (x4 : List UInt8), List.length s3 ≤ 1000000 ∧ [AV.str s, AV.str [60, 47, 101, 115, 105, 58]] = [AV.str s3, AV.str x4] ∧ ifP (contB s3 x4) (AV.bool true = v) (∃ (s5 : List UInt8), List.length s5 ≤ 1000000 ∧ [Blk.mem 9 [AV.str s], Blk.grow 4 1 9] = [Blk.mem 9 [AV.str s5], Blk.grow 4 1 9] ∧ [AV.sl 1 [[AV.str [32]], [AV.str [9]], [AV.str [10]], [AV.str [13]]] (some 1), AV.fn (Fn.func 48) [] [AV.ptr 0 0]] = [AV.sl 1 [[AV.str [32]], [AV.str [9]], [AV.str [10]], [AV.str [13]]] (some 1), AV.fn (Fn.func 48) [] [AV.ptr 0 0]] ∧ AV.bool (List.any blanksL fun (b : List UInt8) ↦ contB s5 ([60, 33, 45, 45, 101, 115, 105] ++ b)) = v))) := by kernel_rfl
  exact unr_ok hT 100000 _ _ _ _ (e.mpr H)

theorem t27 {v : AV} {xk xp : Int} {xt : List UInt8} {xa xs : List (List AV)} {hid : Bool} (hT : TabOk cfg (ctab [(19, containsC), (38, taggedC)])) (H :
    ifP (xk == 2) (ifP (!xt == []) (∃ (s1 : List UInt8), List.length s1 ≤ 1000000 ∧ [AV.str xt] = [AV.str s1] ∧ ifP (!taggedB s1) (ifP hid (∃ (s2 : List UInt8), ∃ (x3 : List UInt8), List.length s2 ≤ 1000000 ∧ [AV.str xt, AV.str [45, 45, 62]] = [AV.str s2, AV.str x3] ∧ (AV.bool !contB s2 x3) = v) (AV.bool true = v)) (AV.bool false = v)) (AV.bool false = v)) (ifP (xk == 4) (∃ (s4 : List UInt8), ∃ (x5 : List UInt8), List.length s4 ≤ 1000000 ∧ [AV.str xt, AV.str [60, 47, 101, 115, 105, 58, 105, 110, 108, 105, 110, 101]] = [AV.str s4, AV.str x5] ∧ (AV.bool !contB s4 x5) = v) (ifP (xk == 5) (∃ (s6 : List UInt8), ∃ (x7 : List UInt8), List.length s6 ≤ 1000000 ∧ [AV.str xt, AV.str [60, 47, 101, 115, 105, 58, 114, 101, 109, 111, 118, 101]] = [AV.str s6, AV.str x7] ∧ ifP (!contB s6 x7) (∃ (s8 : List UInt8), ∃ (x9 : List UInt8), List.length s8 ≤ 1000000 ∧ [AV.str xt, AV.str [60, 101, 115, 105, 58]] = [AV.str s8, AV.str x9] ∧ (AV.bool !contB s8 x9) = v) (AV.bool false = v)) (AV.bool (xt == []) = v)))) :
    ToEnd cfg 27 (bodyOf Tryd.f27) (RetIs Tryd.prog Tryd.f27 v) ([.code []]) .normal ([(0, true, .agg [.int .i64 xk, .int .i64 xp, .str xt, .sl 3 xa none, .sl 5 xs none]), (1, true, .bool hid)]) ([]) := by
  have e : unr cfg 27 (bodyOf Tryd.f27) (ctab [(19, containsC), (38, taggedC)]) ⟨[], []⟩ (RetIs Tryd.prog Tryd.f27 v) 100000 ([.code []]) .normal ([(0, true, .agg [.int .i64 xk, .int .i64 xp, .str xt, .sl 3 xa none, .sl 5 xs none]), (1, true, .bool hid)]) ([]) =
    (ifP (xk == 2) (ifP (!xt == []) (∃ (s1 : List UInt8), List.length s1 ≤ 1000000 ∧ [AV.str xt] = [AV.str s1] ∧ ifP (!taggedB s1) (ifP hid (∃ (s2 : List UInt8), ∃ (x3 : List UInt8), List.length s2 ≤ 1000000 ∧ [AV.str xt, AV.str [45, 45, 62]] = [AV.str s2, AV.str x3] ∧ (AV.bool !contB s2 x3) = v) (AV.bool true = v)) (AV.bool false = v)) (AV.bool false = v)) (ifP (xk == 4) (∃ (s4 : List UInt8), ∃ (x5 : List UInt8), List.length s4 ≤ 1000000 ∧ [AV.str xt, AV.str [60, 47, 101, 115, 105, 58, 105, 110, 108, 105, 110, 101]] = [AV.str s4, AV.str x5] ∧ (AV.bool !contB s4 x5) = v) (ifP (xk == 5) (∃ (s6 : List UInt8), ∃ (x7 : List UInt8), List.length s6 ≤ 1000000 ∧ [AV.str xt, AV.str [60, 47, 101, 115, 105, 58, 114, 101, 109, 111, 118, 101]] = [AV.str s6, AV.str x7] ∧ ifP (!contB s6 x7) (∃ (s8 : List UInt8), ∃ (x9 : List UInt8), List.length s8 ≤ 1000000 ∧ [AV.str xt, AV.str [60, 101, 115, 105, 58]] = [AV.str s8, AV.str x9] ∧ (AV.bool !contB s8 x9) = v) (AV.bool false = v)) (AV.bool (xt == []) = v)))) := by kernel_rfl
  exact unr_ok hT 100000 _ _ _ _ (e.mpr H)

theorem t26 {v : AV} {k : Int} (hT : TabOk cfg (ctab [])) (H :
    ifP (k == 3) (AV.sl 3 [[AV.str [115, 114, 99], AV.bool true, AV.fn (Fn.func 35) [] []], [AV.str [97, 108, 116], AV.bool false, AV.fn (Fn.func 35) [] []], [AV.str [111, 110, 101, 114, 114, 111, 114], AV.bool false, AV.fn (Fn.func 36) [AV.sl 1 [[AV.str [99, 111, 110, 116, 105, 110, 117, 101]]] none] []]] none = v) (ifP (k == 4) (AV.sl 3 [[AV.str [110, 97, 109, 101], AV.bool true, AV.fn (Fn.func 35) [] []], [AV.str [102, 101, 116, 99, 104, 97, 98, 108, 101], AV.bool false, AV.fn (Fn.func 36) [AV.sl 1 [[AV.str [121, 101, 115]], [AV.str [110, 111]]] none] []]] none = v) (ifP (k == 6) (AV.sl 3 [[AV.str [116, 101, 120, 116], AV.bool true, AV.fn (Fn.func 37) [] []]] none = v) (ifP (k == 11) (AV.sl 3 [[AV.str [116, 101, 115, 116], AV.bool true, AV.fn (Fn.func 35) [] []]] none = v) (AV.sl 3 [] none = v))))) :
    ToEnd cfg 26 (bodyOf Tryd.f26) (RetIs Tryd.prog Tryd.f26 v) ([.code []]) .normal ([(0, true, .int .i64 k)]) ([]) := by
  have e : unr cfg 26 (bodyOf Tryd.f26) (ctab []) ⟨[], []⟩ (RetIs Tryd.prog Tryd.f26 v) 100000 ([.code []]) .normal ([(0, true, .int .i64 k)]) ([]) =
    (ifP (k == 3) (AV.sl 3 [[AV.str [115, 114, 99], AV.bool true, AV.fn (Fn.func 35) [] []], [AV.str [97, 108, 116], AV.bool false, AV.fn (Fn.func 35) [] []], [AV.str [111, 110, 101, 114, 114, 111, 114], AV.bool false, AV.fn (Fn.func 36) [AV.sl 1 [[AV.str [99, 111, 110, 116, 105, 110, 117, 101]]] none] []]] none = v) (ifP (k == 4) (AV.sl 3 [[AV.str [110, 97, 109, 101], AV.bool true, AV.fn (Fn.func 35) [] []], [AV.str [102, 101, 116, 99, 104, 97, 98, 108, 101], AV.bool false, AV.fn (Fn.func 36) [AV.sl 1 [[AV.str [121, 101, 115]], [AV.str [110, 111]]] none] []]] none = v) (ifP (k == 6) (AV.sl 3 [[AV.str [116, 101, 120, 116], AV.bool true, AV.fn (Fn.func 37) [] []]] none = v) (ifP (k == 11) (AV.sl 3 [[AV.str [116, 101, 115, 116], AV.bool true, AV.fn (Fn.func 35) [] []]] none = v) (AV.sl 3 [] none = v))))) := by kernel_rfl
  exact unr_ok hT 100000 _ _ _ _ (e.mpr H)

theorem t25x {v : AV} {ea : List (List AV)} (hT : TabOk cfg (ctab [(19, containsC), (35, fullC), (36, hasSC), (37, anyC)])) (H :
    AV.bool (0 == (↑(List.length ea) : Int)) = v) :
    ToEnd cfg 25 (bodyOf Tryd.f25) (RetIs Tryd.prog Tryd.f25 v) ([.code []]) .normal ([(0, true, .agg [.sl 3 ea none]), (1, true, .sl 3 [] none)]) ([]) := by
  have e : unr cfg 25 (bodyOf Tryd.f25) (ctab [(19, containsC), (35, fullC), (36, hasSC), (37, anyC)]) ⟨[[0, 1, 0, 1, 1, 0, 0, 1, 1, 0, 0, 1, 0, 1, 1]], [([0, 0, 0, 1, 1, 0, 0, 1, 0, 1, 1, 0, 0, 1, 1, 0, 0, 1, 0, 1, 1], 0, [.str, .str, .int .i64])]⟩ (RetIs Tryd.prog Tryd.f25 v) 100000 ([.code []]) .normal ([(0, true, .agg [.sl 3 ea none]), (1, true, .sl 3 [] none)]) ([]) =
    (AV.bool (0 == (↑(List.length ea) : Int)) = v) := by kernel_rfl
  exact unr_ok hT 100000 _ _ _ _ (e.mpr H)

theorem t25i {v : AV} {ea : List (List AV)} (hT : TabOk cfg (ctab [(19, containsC), (35, fullC), (36, hasSC), (37, anyC)])) (H :
    ToEnd cfg 25 (bodyOf Tryd.f25) (RetIs Tryd.prog Tryd.f25 v) [Fm.code [0, 1, 0, 1, 1, 0, 0, 1, 1, 0, 0, 1, 0, 1, 1], Fm.block 2, Fm.code [1, 1, 1, 0, 0, 1, 1, 0, 0, 1, 0, 1, 1], Fm.block 1, Fm.code [1, 1, 1, 0, 0, 1, 0, 1, 1], Fm.loop [0, 1, 0, 1, 1] 1, Fm.block 0, Fm.code [1, 1, 1]] XT.normal [(2, true, AV.ptr 0 0), (5, true, AV.int IntKind.i64 0), (7, true, AV.ptr 1 0), (8, true, AV.int IntKind.i64 0), (11, true, AV.sl 3 [[AV.str [115, 114, 99], AV.bool true, AV.fn (Fn.func 35) [] []], [AV.str [97, 108, 116], AV.bool false, AV.fn (Fn.func 35) [] []], [AV.str [111, 110, 101, 114, 114, 111, 114], AV.bool false, AV.fn (Fn.func 36) [AV.sl 1 [[AV.str [99, 111, 110, 116, 105, 110, 117, 101]]] none] []]] none), (12, true, AV.int IntKind.i64 3), (13, true, AV.int IntKind.i64 0), (18, true, AV.sl 3 ea none), (19, true, AV.int IntKind.i64 (↑(List.length ea) : Int)), (20, true, AV.int IntKind.i64 0)] [Blk.mem 66 [AV.sl 3 ea none], Blk.mem 80 [AV.str [115, 114, 99], AV.bool true, AV.fn (Fn.func 35) [] []]]) :
    ToEnd cfg 25 (bodyOf Tryd.f25) (RetIs Tryd.prog Tryd.f25 v) ([.code []]) .normal ([(0, true, .agg [.sl 3 ea none]), (1, true, .sl 3 [[.str [115, 114, 99], .bool true, .fn (.func 35) [] []], [.str [97, 108, 116], .bool false, .fn (.func 35) [] []], [.str [111, 110, 101, 114, 114, 111, 114], .bool false, .fn (.func 36) [.sl 1 [[.str [99, 111, 110, 116, 105, 110, 117, 101]]] none] []]] none)]) ([]) := by
  have e : unr cfg 25 (bodyOf Tryd.f25) (ctab [(19, containsC), (35, fullC), (36, hasSC), (37, anyC)]) ⟨[[0, 1, 0, 1, 1, 0, 0, 1, 1, 0, 0, 1, 0, 1, 1]], [([0, 0, 0, 1, 1, 0, 0, 1, 0, 1, 1, 0, 0, 1, 1, 0, 0, 1, 0, 1, 1], 0, [.str, .str, .int .i64])]⟩ (RetIs Tryd.prog Tryd.f25 v) 100000 ([.code []]) .normal ([(0, true, .agg [.sl 3 ea none]), (1, true, .sl 3 [[.str [115, 114, 99], .bool true, .fn (.func 35) [] []], [.str [97, 108, 116], .bool false, .fn (.func 35) [] []], [.str [111, 110, 101, 114, 114, 111, 114], .bool false, .fn (.func 36) [.sl 1 [[.str [99, 111, 110, 116, 105, 110, 117, 101]]] none] []]] none)]) ([]) =
    (ToEnd cfg 25 (bodyOf Tryd.f25) (RetIs Tryd.prog Tryd.f25 v) [Fm.code [0, 1, 0, 1, 1, 0, 0, 1, 1, 0, 0, 1, 0, 1, 1], Fm.block 2, Fm.code [1, 1, 1, 0, 0, 1, 1, 0, 0, 1, 0, 1, 1], Fm.block 1, Fm.code [1, 1, 1, 0, 0, 1, 0, 1, 1], Fm.loop [0, 1, 0, 1, 1] 1, Fm.block 0, Fm.code [1, 1, 1]] XT.normal [(2, true, AV.ptr 0 0), (5, true, AV.int IntKind.i64 0), (7, true, AV.ptr 1 0), (8, true, AV.int IntKind.i64 0), (11, true, AV.sl 3 [[AV.str [115, 114, 99], AV.bool true, AV.fn (Fn.func 35) [] []], [AV.str [97, 108, 116], AV.bool false, AV.fn (Fn.func 35) [] []], [AV.str [111, 110, 101, 114, 114, 111, 114], AV.bool false, AV.fn (Fn.func 36) [AV.sl 1 [[AV.str [99, 111, 110, 116, 105, 110, 117, 101]]] none] []]] none), (12, true, AV.int IntKind.i64 3), (13, true, AV.int IntKind.i64 0), (18, true, AV.sl 3 ea none), (19, true, AV.int IntKind.i64 (↑(List.length ea) : Int)), (20, true, AV.int IntKind.i64 0)] [Blk.mem 66 [AV.sl 3 ea none], Blk.mem 80 [AV.str [115, 114, 99], AV.bool true, AV.fn (Fn.func 35) [] []]]) := by kernel_rfl
  exact unr_ok hT 100000 _ _ _ _ (e.mpr H)

end Go.Proofs.YtafflebdjmnihaaDoor
end

section
namespace Go.Proofs.YtafflebdjmnihaaDoor
open Go.Ai Go
set_option linter.unusedSimpArgs false
set_option linter.unusedVariables false
set_option maxRecDepth 100000

theorem pf38 : pureFn cfg 38 Tryd.f38 := ⟨by kernel_rfl, by kernel_rfl, by kernel_rfl, by kernel_rfl, by kernel_rfl, by kernel_rfl⟩
theorem pf27 : pureFn cfg 27 Tryd.f27 := ⟨by kernel_rfl, by kernel_rfl, by kernel_rfl, by kernel_rfl, by kernel_rfl, by kernel_rfl⟩
theorem pf26 : pureFn cfg 26 Tryd.f26 := ⟨by kernel_rfl, by kernel_rfl, by kernel_rfl, by kernel_rfl, by kernel_rfl, by kernel_rfl⟩
theorem hf48 : heapFn cfg 48 Tryd.f48 := ⟨by kernel_rfl, by kernel_rfl, by kernel_rfl, by kernel_rfl, by kernel_rfl, by kernel_rfl⟩
theorem hf56 : heapFn cfg 56 Tryd.f56 := ⟨by kernel_rfl, by kernel_rfl, by kernel_rfl, by kernel_rfl, by kernel_rfl, by kernel_rfl⟩
theorem hf47 : heapFn cfg 47 Tryd.f47 := ⟨by kernel_rfl, by kernel_rfl, by kernel_rfl, by kernel_rfl, by kernel_rfl, by kernel_rfl⟩

theorem c48 : COk cfg 48 tag1C := by
  refine cok_heap hf48 fun vs h K ht => ?_
  obtain ⟨s, b, hs, hb, rfl, rfl, hk⟩ := ht
  refine t48 (ctab_ok (ctab_cons c19 ctab_nil)) (gAnd_intro ?_ ⟨_, _, hs, rfl, hk⟩)
  rw [decide_eq_true_eq]; omega
theorem c56 : COk cfg 56 tagIxC := by
  refine cok_heap hf56 fun vs h K ht => ?_
  obtain ⟨s, hs, rfl, rfl, hk⟩ := ht
  refine t56 (ctab_ok (ctab_cons c48 ctab_nil)) ?_
  simp only [blanksL, ixOf] at hk
  refine ⟨_, rfl, s, _, hs, by decide, rfl, rfl, ifP_intro (fun a => ?_) fun a => ?_⟩
  · have e : contB s (esi3 ++ [32]) = true := a
    rw [e] at hk; exact hk
  have e : contB s (esi3 ++ [32]) = false := a
  rw [e] at hk
  refine ⟨_, rfl, s, _, hs, by decide, rfl, rfl, ifP_intro (fun a => ?_) fun a => ?_⟩
  · have e : contB s (esi3 ++ [9]) = true := a
    rw [e] at hk; exact hk
  have e : contB s (esi3 ++ [9]) = false := a
  rw [e] at hk
  refine ⟨_, rfl, s, _, hs, by decide, rfl, rfl, ifP_intro (fun a => ?_) fun a => ?_⟩
  · have e : contB s (esi3 ++ [10]) = true := a
    rw [e] at hk; exact hk
  have e : contB s (esi3 ++ [10]) = false := a
  rw [e] at hk
  refine ⟨_, rfl, s, _, hs, by decide, rfl, rfl, ifP_intro (fun a => ?_) fun a => ?_⟩
  · have e : contB s (esi3 ++ [13]) = true := a
    rw [e] at hk; exact hk
  have e : contB s (esi3 ++ [13]) = false := a
  rw [e] at hk
  exact hk
theorem c47 : COk cfg 47 tagAnyC := by
  refine cok_heap hf47 fun vs h K ht => ?_
  obtain ⟨s, hs, rfl, rfl, hk⟩ := ht
  refine t47 (ctab_ok (ctab_cons c56 ctab_nil)) ⟨s, hs, rfl, rfl, ?_⟩
  have e := ixOf_ge (fun b => contB s (esi3 ++ b)) blanksL 0 (Int.le_refl _)
  rw [← e] at hk
  exact hk
theorem c38 : COk cfg 38 taggedC := by
  refine cok_pure pf38 fun vs h K ht => ?_
  obtain ⟨s, hs, rfl, hk⟩ := ht
  refine ⟨_, hk, t38 (ctab_ok (ctab_cons c19 (ctab_cons c47 ctab_nil))) ⟨_, _, hs, rfl, ifP_intro (fun a => ?_) fun a => ⟨_, _, hs, rfl, ifP_intro (fun b => ?_) fun b => ⟨_, hs, rfl, rfl, ?_⟩⟩⟩⟩
  · have e : contB s esi1 = true := a
    unfold taggedB; rw [e]; rfl
  · have e : contB s esi1 = false := a
    have e' : contB s esi2 = true := b
    unfold taggedB; rw [e, e']; rfl
  · have e : contB s esi1 = false := a
    have e' : contB s esi2 = false := b
    unfold taggedB; rw [e, e']; rfl
theorem c27 : COk cfg 27 textC := by
  refine cok_pure pf27 fun vs h K ht => ?_
  obtain ⟨n, hid, hs, rfl, hk⟩ := ht
  refine ⟨_, hk, ?_⟩
  rw [encN_eq]
  have hT := ctab_ok (ctab_cons c19 (ctab_cons c38 ctab_nil))
  generalize n.text = t at *
  generalize n.kind = k at *
  refine t27 hT (ifP_intro (fun a => ?_) fun a => ifP_intro (fun b => ?_) fun b => ifP_intro (fun c => ?_) fun c => ?_)
  · unfold textB
    rw [a, cond_true]
    refine ifP_intro (fun b => ⟨_, hs, rfl, ifP_intro (fun c => ifP_intro (fun d => ⟨_, _, hs, rfl, ?_⟩) fun d => ?_) fun c => ?_⟩) fun b => ?_
    · rw [b, c, d]; rfl
    · rw [b, c, d]; rfl
    · rw [b, c]; rfl
    · rw [b]; rfl
  · unfold textB
    rw [a, b]
    exact ⟨_, _, hs, rfl, rfl⟩
  · unfold textB
    rw [a, b, c]
    refine ⟨_, _, hs, rfl, ifP_intro (fun d => ⟨_, _, hs, rfl, ?_⟩) fun d => ?_⟩
    · have e : (!contB t rem1) = true := d
      simp only [cond_true, cond_false, e]; rfl
    · have e : (!contB t rem1) = false := d
      simp only [cond_true, cond_false, e]; rfl
  · unfold textB
    rw [a, b, c]
    rfl
end Go.Proofs.YtafflebdjmnihaaDoor
end
