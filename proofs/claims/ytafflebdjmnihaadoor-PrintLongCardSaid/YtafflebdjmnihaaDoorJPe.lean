/-
  Runs of the document's answer on texts of trees, printed by a home tool; each is the kernel's word.
  The document's answer on texts of trees: the functions keep to their contracts.
  The document's answer on trees with a long text: the functions keep to their contracts.
-/
import Derived.Test.YtafflebdjmnihaaDoorCfg
import Derived.Test.YtafflebdjmnihaaDoorJPd
section
namespace Go.Proofs.YtafflebdjmnihaaDoor
open Go.Ai Go
set_option maxRecDepth 100000
set_option linter.unusedVariables false
theorem t45a {v : AV} {s x : List UInt8} (hT : TabOk cfg (ctab [])) (H :
    ToEnd cfg 45 (bodyOf Tryd.f45) (RetIs Tryd.prog Tryd.f45 v) [Fm.code [0, 1, 0, 1], Fm.block 0, Fm.code [1, 1]] XT.normal [(0, true, AV.str s), (1, true, AV.str x), (5, true, AV.int IntKind.i64 0)] []) :
    ToEnd cfg 45 (bodyOf Tryd.f45) (RetIs Tryd.prog Tryd.f45 v) ([.code []]) .normal ([(0, true, .str s), (1, true, .str x)]) ([]) := by
  have e : unr cfg 45 (bodyOf Tryd.f45) (ctab []) ⟨[[0, 1, 0, 1]], []⟩ (RetIs Tryd.prog Tryd.f45 v) 100000 ([.code []]) .normal ([(0, true, .str s), (1, true, .str x)]) ([]) =
    (ToEnd cfg 45 (bodyOf Tryd.f45) (RetIs Tryd.prog Tryd.f45 v) [Fm.code [0, 1, 0, 1], Fm.block 0, Fm.code [1, 1]] XT.normal [(0, true, AV.str s), (1, true, AV.str x), (5, true, AV.int IntKind.i64 0)] []) := by kernel_rfl
  exact unr_ok hT 100000 _ _ _ _ (e.mpr H)

theorem t45b {v : AV}  {s0 : List UInt8} {s1 : List UInt8} {i5 : Int} (hT : TabOk cfg (ctab [])) (H :
    ifP (decide (IntKind.wrap IntKind.i64 (i5 + (↑(List.length s1) : Int)) ≤ (↑(List.length s0) : Int))) (gAnd (cutOb (List.length s0) (some i5) (some (IntKind.wrap IntKind.i64 (i5 + (↑(List.length s1) : Int))))) (ifP (cutL s0 (some i5) (some (IntKind.wrap IntKind.i64 (i5 + (↑(List.length s1) : Int)))) == s1) (AV.bool true = v) (ToEnd cfg 45 (bodyOf Tryd.f45) (RetIs Tryd.prog Tryd.f45 v) [Fm.code [0, 1, 0, 1], Fm.block 0, Fm.code [1, 1]] XT.normal [(0, true, AV.str s0), (1, true, AV.str s1), (5, true, AV.int IntKind.i64 (IntKind.wrap IntKind.i64 (i5 + 1)))] []))) (AV.bool false = v)) :
    ToEnd cfg 45 (bodyOf Tryd.f45) (RetIs Tryd.prog Tryd.f45 v) ([.code [0, 1, 0, 1], Fm.block 0, Fm.code [1, 1]]) .normal ([(0, true, AV.str s0), (1, true, AV.str s1), (5, true, AV.int IntKind.i64 i5)]) ([]) := by
  have e : unr cfg 45 (bodyOf Tryd.f45) (ctab []) ⟨[[0, 1, 0, 1]], []⟩ (RetIs Tryd.prog Tryd.f45 v) 100000 ([.code [0, 0, 1, 0, 1], .loop [0, 1, 0, 1] 0, Fm.block 0, Fm.code [1, 1]]) .normal ([(0, true, AV.str s0), (1, true, AV.str s1), (5, true, AV.int IntKind.i64 i5)]) ([]) =
    (ifP (decide (IntKind.wrap IntKind.i64 (i5 + (↑(List.length s1) : Int)) ≤ (↑(List.length s0) : Int))) (gAnd (cutOb (List.length s0) (some i5) (some (IntKind.wrap IntKind.i64 (i5 + (↑(List.length s1) : Int))))) (ifP (cutL s0 (some i5) (some (IntKind.wrap IntKind.i64 (i5 + (↑(List.length s1) : Int)))) == s1) (AV.bool true = v) (ToEnd cfg 45 (bodyOf Tryd.f45) (RetIs Tryd.prog Tryd.f45 v) [Fm.code [0, 1, 0, 1], Fm.block 0, Fm.code [1, 1]] XT.normal [(0, true, AV.str s0), (1, true, AV.str s1), (5, true, AV.int IntKind.i64 (IntKind.wrap IntKind.i64 (i5 + 1)))] []))) (AV.bool false = v)) := by kernel_rfl
  exact ends_round hT 100000 (by kernel_rfl) (e.mpr H)

theorem t44a {v : AV} {s : List UInt8} (hT : TabOk cfg (ctab [(45, hasZC)])) (H :
    ToEnd cfg 44 (bodyOf Tryd.f44) (RetIs Tryd.prog Tryd.f44 v) [Fm.code [0, 1, 0, 1], Fm.block 0, Fm.code [1, 1]] XT.normal [(0, true, AV.str s), (3, true, AV.int IntKind.i64 0)] []) :
    ToEnd cfg 44 (bodyOf Tryd.f44) (RetIs Tryd.prog Tryd.f44 v) ([.code []]) .normal ([(0, true, .str s)]) ([]) := by
  have e : unr cfg 44 (bodyOf Tryd.f44) (ctab [(45, hasZC)]) ⟨[[0, 1, 0, 1]], []⟩ (RetIs Tryd.prog Tryd.f44 v) 100000 ([.code []]) .normal ([(0, true, .str s)]) ([]) =
    (ToEnd cfg 44 (bodyOf Tryd.f44) (RetIs Tryd.prog Tryd.f44 v) [Fm.code [0, 1, 0, 1], Fm.block 0, Fm.code [1, 1]] XT.normal [(0, true, AV.str s), (3, true, AV.int IntKind.i64 0)] []) := by kernel_rfl
  exact unr_ok hT 100000 _ _ _ _ (e.mpr H)

theorem t44b {v : AV}  {s0 : List UInt8} {i3 : Int} (hT : TabOk cfg (ctab [(45, hasZC)])) (H :
    ifP (decide (IntKind.wrap IntKind.i64 (i3 + 8) ≤ (↑(List.length s0) : Int))) (gAnd (cutOb (List.length s0) (some i3) (some (IntKind.wrap IntKind.i64 (i3 + 7)))) (ifP (cutL s0 (some i3) (some (IntKind.wrap IntKind.i64 (i3 + 7))) == [60, 33, 45, 45, 101, 115, 105]) (gAnd (inR (IntKind.wrap IntKind.i64 (i3 + 7)) (List.length s0)) False) (ToEnd cfg 44 (bodyOf Tryd.f44) (RetIs Tryd.prog Tryd.f44 v) [Fm.code [0, 1, 0, 1], Fm.block 0, Fm.code [1, 1]] XT.normal [(0, true, AV.str s0), (3, true, AV.int IntKind.i64 (IntKind.wrap IntKind.i64 (i3 + 1)))] []))) (∃ (n1 : Nat), ∃ (c2 : UInt8), ∃ (r3 : List UInt8), n1 ≤ 1000000 ∧ c2 ≠ 0 ∧ List.length r3 ≤ 100 ∧ [AV.str s0, AV.str [60, 101, 115, 105, 58]] = [AV.str (zs n1), AV.str (c2 :: r3)] ∧ ∃ (n4 : Nat), ∃ (c5 : UInt8), ∃ (r6 : List UInt8), n4 ≤ 1000000 ∧ c5 ≠ 0 ∧ List.length r6 ≤ 100 ∧ [AV.str s0, AV.str [60, 47, 101, 115, 105, 58]] = [AV.str (zs n4), AV.str (c5 :: r6)] ∧ AV.bool false = v)) :
    ToEnd cfg 44 (bodyOf Tryd.f44) (RetIs Tryd.prog Tryd.f44 v) ([.code [0, 1, 0, 1], Fm.block 0, Fm.code [1, 1]]) .normal ([(0, true, AV.str s0), (3, true, AV.int IntKind.i64 i3)]) ([]) := by
  have e : unr cfg 44 (bodyOf Tryd.f44) (ctab [(45, hasZC)]) ⟨[[0, 1, 0, 1]], []⟩ (RetIs Tryd.prog Tryd.f44 v) 100000 ([.code [0, 0, 1, 0, 1], .loop [0, 1, 0, 1] 0, Fm.block 0, Fm.code [1, 1]]) .normal ([(0, true, AV.str s0), (3, true, AV.int IntKind.i64 i3)]) ([]) =
    (ifP (decide (IntKind.wrap IntKind.i64 (i3 + 8) ≤ (↑(List.length s0) : Int))) (gAnd (cutOb (List.length s0) (some i3) (some (IntKind.wrap IntKind.i64 (i3 + 7)))) (ifP (cutL s0 (some i3) (some (IntKind.wrap IntKind.i64 (i3 + 7))) == [60, 33, 45, 45, 101, 115, 105]) (gAnd (inR (IntKind.wrap IntKind.i64 (i3 + 7)) (List.length s0)) False) (ToEnd cfg 44 (bodyOf Tryd.f44) (RetIs Tryd.prog Tryd.f44 v) [Fm.code [0, 1, 0, 1], Fm.block 0, Fm.code [1, 1]] XT.normal [(0, true, AV.str s0), (3, true, AV.int IntKind.i64 (IntKind.wrap IntKind.i64 (i3 + 1)))] []))) (∃ (n1 : Nat), ∃ (c2 : UInt8), ∃ (r3 : List UInt8), n1 ≤ 1000000 ∧ c2 ≠ 0 ∧ List.length r3 ≤ 100 ∧ [AV.str s0, AV.str [60, 101, 115, 105, 58]] = [AV.str (zs n1), AV.str (c2 :: r3)] ∧ ∃ (n4 : Nat), ∃ (c5 : UInt8), ∃ (r6 : List UInt8), n4 ≤ 1000000 ∧ c5 ≠ 0 ∧ List.length r6 ≤ 100 ∧ [AV.str s0, AV.str [60, 47, 101, 115, 105, 58]] = [AV.str (zs n4), AV.str (c5 :: r6)] ∧ AV.bool false = v)) := by kernel_rfl
  exact ends_round hT 100000 (by kernel_rfl) (e.mpr H)

theorem t23a {v : AV} {s : List UInt8} (hT : TabOk cfg (ctab [])) (H :
    ToEnd cfg 23 (bodyOf Tryd.f23) (RetIs Tryd.prog Tryd.f23 v) [Fm.code [0, 1, 0, 1], Fm.block 0, Fm.code [1, 1]] XT.normal [(0, true, AV.str s), (3, true, AV.int IntKind.i64 0)] []) :
    ToEnd cfg 23 (bodyOf Tryd.f23) (RetIs Tryd.prog Tryd.f23 v) ([.code []]) .normal ([(0, true, .str s)]) ([]) := by
  have e : unr cfg 23 (bodyOf Tryd.f23) (ctab []) ⟨[[0, 1, 0, 1]], []⟩ (RetIs Tryd.prog Tryd.f23 v) 100000 ([.code []]) .normal ([(0, true, .str s)]) ([]) =
    (ToEnd cfg 23 (bodyOf Tryd.f23) (RetIs Tryd.prog Tryd.f23 v) [Fm.code [0, 1, 0, 1], Fm.block 0, Fm.code [1, 1]] XT.normal [(0, true, AV.str s), (3, true, AV.int IntKind.i64 0)] []) := by kernel_rfl
  exact unr_ok hT 100000 _ _ _ _ (e.mpr H)

theorem t23b {v : AV}  {s0 : List UInt8} {i3 : Int} (hT : TabOk cfg (ctab [])) (H :
    ifP (decide (i3 < (↑(List.length s0) : Int))) (gAnd (inR i3 (List.length s0)) (ifP ((↑(UInt8.toNat (List.getD s0 (Int.toNat i3) 0)) : Int) == 34) (gAnd (decide (1 + List.length s0 ≤ 9223372036854775807)) (gAnd (decide (List.length (39 :: List.append [] s0) + 1 ≤ 9223372036854775807)) (AV.str (39 :: List.append (List.append [] s0) [39]) = v))) (ToEnd cfg 23 (bodyOf Tryd.f23) (RetIs Tryd.prog Tryd.f23 v) [Fm.code [0, 1, 0, 1], Fm.block 0, Fm.code [1, 1]] XT.normal [(0, true, AV.str s0), (3, true, AV.int IntKind.i64 (IntKind.wrap IntKind.i64 (i3 + 1)))] []))) (gAnd (decide (1 + List.length s0 ≤ 9223372036854775807)) (gAnd (decide (List.length (34 :: List.append [] s0) + 1 ≤ 9223372036854775807)) (AV.str (34 :: List.append (List.append [] s0) [34]) = v)))) :
    ToEnd cfg 23 (bodyOf Tryd.f23) (RetIs Tryd.prog Tryd.f23 v) ([.code [0, 1, 0, 1], Fm.block 0, Fm.code [1, 1]]) .normal ([(0, true, AV.str s0), (3, true, AV.int IntKind.i64 i3)]) ([]) := by
  have e : unr cfg 23 (bodyOf Tryd.f23) (ctab []) ⟨[[0, 1, 0, 1]], []⟩ (RetIs Tryd.prog Tryd.f23 v) 100000 ([.code [0, 0, 1, 0, 1], .loop [0, 1, 0, 1] 0, Fm.block 0, Fm.code [1, 1]]) .normal ([(0, true, AV.str s0), (3, true, AV.int IntKind.i64 i3)]) ([]) =
    (ifP (decide (i3 < (↑(List.length s0) : Int))) (gAnd (inR i3 (List.length s0)) (ifP ((↑(UInt8.toNat (List.getD s0 (Int.toNat i3) 0)) : Int) == 34) (gAnd (decide (1 + List.length s0 ≤ 9223372036854775807)) (gAnd (decide (List.length (39 :: List.append [] s0) + 1 ≤ 9223372036854775807)) (AV.str (39 :: List.append (List.append [] s0) [39]) = v))) (ToEnd cfg 23 (bodyOf Tryd.f23) (RetIs Tryd.prog Tryd.f23 v) [Fm.code [0, 1, 0, 1], Fm.block 0, Fm.code [1, 1]] XT.normal [(0, true, AV.str s0), (3, true, AV.int IntKind.i64 (IntKind.wrap IntKind.i64 (i3 + 1)))] []))) (gAnd (decide (1 + List.length s0 ≤ 9223372036854775807)) (gAnd (decide (List.length (34 :: List.append [] s0) + 1 ≤ 9223372036854775807)) (AV.str (34 :: List.append (List.append [] s0) [34]) = v)))) := by kernel_rfl
  exact ends_round hT 100000 (by kernel_rfl) (e.mpr H)

theorem t43 {v : AV} {z : List UInt8} (hT : TabOk cfg (ctab [(45, hasZC)])) (H :
    ∃ (n1 : Nat), ∃ (c2 : UInt8), ∃ (r3 : List UInt8), n1 ≤ 1000000 ∧ c2 ≠ 0 ∧ List.length r3 ≤ 100 ∧ [AV.str z, AV.str [34]] = [AV.str (zs n1), AV.str (c2 :: r3)] ∧ AV.bool true = v) :
    ToEnd cfg 43 (bodyOf Tryd.f43) (RetIs Tryd.prog Tryd.f43 v) ([.code []]) .normal ([(0, true, .agg [.str [116, 101, 120, 116], .str z, .int .i64 0])]) ([]) := by
  have e : unr cfg 43 (bodyOf Tryd.f43) (ctab [(45, hasZC)]) ⟨[], []⟩ (RetIs Tryd.prog Tryd.f43 v) 100000 ([.code []]) .normal ([(0, true, .agg [.str [116, 101, 120, 116], .str z, .int .i64 0])]) ([]) =
    (∃ (n1 : Nat), ∃ (c2 : UInt8), ∃ (r3 : List UInt8), n1 ≤ 1000000 ∧ c2 ≠ 0 ∧ List.length r3 ≤ 100 ∧ [AV.str z, AV.str [34]] = [AV.str (zs n1), AV.str (c2 :: r3)] ∧ AV.bool true = v) := by kernel_rfl
  exact unr_ok hT 100000 _ _ _ _ (e.mpr H)

theorem t42a {v : AV} {sz : Nat} {a : List UInt8} (hT : TabOk cfg (ctab [])) (H :
    AV.int IntKind.i64 0 = v) :
    ToEnd cfg 42 (bodyOf Tryd.f42) (RetIs Tryd.prog Tryd.f42 v) ([.code []]) .normal ([(0, true, .sl sz [] none), (1, true, .str a)]) ([]) := by
  have e : unr cfg 42 (bodyOf Tryd.f42) (ctab []) ⟨[], []⟩ (RetIs Tryd.prog Tryd.f42 v) 100000 ([.code []]) .normal ([(0, true, .sl sz [] none), (1, true, .str a)]) ([]) =
    (AV.int IntKind.i64 0 = v) := by kernel_rfl
  exact unr_ok hT 100000 _ _ _ _ (e.mpr H)

theorem t42b {v : AV} {a b : List UInt8} (hT : TabOk cfg (ctab [])) (H :
    ifP (a == b) (AV.int IntKind.i64 1 = v) (AV.int IntKind.i64 0 = v)) :
    ToEnd cfg 42 (bodyOf Tryd.f42) (RetIs Tryd.prog Tryd.f42 v) ([.code []]) .normal ([(0, true, .sl 1 [[.str a]] none), (1, true, .str b)]) ([]) := by
  have e : unr cfg 42 (bodyOf Tryd.f42) (ctab []) ⟨[], []⟩ (RetIs Tryd.prog Tryd.f42 v) 100000 ([.code []]) .normal ([(0, true, .sl 1 [[.str a]] none), (1, true, .str b)]) ([]) =
    (ifP (a == b) (AV.int IntKind.i64 1 = v) (AV.int IntKind.i64 0 = v)) := by kernel_rfl
  exact unr_ok hT 100000 _ _ _ _ (e.mpr H)

theorem t41 {v : AV} {k : Int} (hT : TabOk cfg (ctab [])) (H :
    ifP (k == 3) (AV.tup [AV.sl 1 [[AV.str [115, 114, 99]]] none, AV.sl 1 [[AV.str [97, 108, 116]], [AV.str [111, 110, 101, 114, 114, 111, 114]]] none] = v) (ifP (k == 4) (AV.tup [AV.sl 1 [[AV.str [110, 97, 109, 101]]] none, AV.sl 1 [[AV.str [102, 101, 116, 99, 104, 97, 98, 108, 101]]] none] = v) (ifP (k == 6) (AV.tup [AV.sl 1 [[AV.str [116, 101, 120, 116]]] none, AV.sl 1 [] none] = v) (ifP (k == 11) (AV.tup [AV.sl 1 [[AV.str [116, 101, 115, 116]]] none, AV.sl 1 [] none] = v) (AV.tup [AV.sl 1 [] none, AV.sl 1 [] none] = v))))) :
    ToEnd cfg 41 (bodyOf Tryd.f41) (RetIs Tryd.prog Tryd.f41 v) ([.code []]) .normal ([(0, true, .int .i64 k)]) ([]) := by
  have e : unr cfg 41 (bodyOf Tryd.f41) (ctab []) ⟨[], []⟩ (RetIs Tryd.prog Tryd.f41 v) 100000 ([.code []]) .normal ([(0, true, .int .i64 k)]) ([]) =
    (ifP (k == 3) (AV.tup [AV.sl 1 [[AV.str [115, 114, 99]]] none, AV.sl 1 [[AV.str [97, 108, 116]], [AV.str [111, 110, 101, 114, 114, 111, 114]]] none] = v) (ifP (k == 4) (AV.tup [AV.sl 1 [[AV.str [110, 97, 109, 101]]] none, AV.sl 1 [[AV.str [102, 101, 116, 99, 104, 97, 98, 108, 101]]] none] = v) (ifP (k == 6) (AV.tup [AV.sl 1 [[AV.str [116, 101, 120, 116]]] none, AV.sl 1 [] none] = v) (ifP (k == 11) (AV.tup [AV.sl 1 [[AV.str [116, 101, 115, 116]]] none, AV.sl 1 [] none] = v) (AV.tup [AV.sl 1 [] none, AV.sl 1 [] none] = v))))) := by kernel_rfl
  exact unr_ok hT 100000 _ _ _ _ (e.mpr H)

theorem t34 {v : AV} {k : Int} (hT : TabOk cfg (ctab [])) (H :
    ifP (k == 2) (AV.bool true = v) (ifP (k == 3) (AV.bool true = v) (ifP (k == 4) (AV.bool true = v) (ifP (k == 5) (AV.bool true = v) (ifP (k == 6) (AV.bool true = v) (ifP (k == 7) (AV.bool true = v) (ifP (k == 10) (AV.bool true = v) (ifP (k == 13) (AV.bool true = v) (ifP (k == 14) (AV.bool true = v) (AV.bool false = v)))))))))) :
    ToEnd cfg 34 (bodyOf Tryd.f34) (RetIs Tryd.prog Tryd.f34 v) ([.code []]) .normal ([(0, true, .int .i64 k)]) ([]) := by
  have e : unr cfg 34 (bodyOf Tryd.f34) (ctab []) ⟨[], []⟩ (RetIs Tryd.prog Tryd.f34 v) 100000 ([.code []]) .normal ([(0, true, .int .i64 k)]) ([]) =
    (ifP (k == 2) (AV.bool true = v) (ifP (k == 3) (AV.bool true = v) (ifP (k == 4) (AV.bool true = v) (ifP (k == 5) (AV.bool true = v) (ifP (k == 6) (AV.bool true = v) (ifP (k == 7) (AV.bool true = v) (ifP (k == 10) (AV.bool true = v) (ifP (k == 13) (AV.bool true = v) (ifP (k == 14) (AV.bool true = v) (AV.bool false = v)))))))))) := by kernel_rfl
  exact unr_ok hT 100000 _ _ _ _ (e.mpr H)

theorem t22_5 {v : AV}  (hT : TabOk cfg (ctab [])) (H :
    AV.str [114, 101, 109, 111, 118, 101] = v) :
    ToEnd cfg 22 (bodyOf Tryd.f22) (RetIs Tryd.prog Tryd.f22 v) ([.code []]) .normal ([(0, true, .int .i64 5)]) ([]) := by
  have e : unr cfg 22 (bodyOf Tryd.f22) (ctab []) ⟨[], []⟩ (RetIs Tryd.prog Tryd.f22 v) 100000 ([.code []]) .normal ([(0, true, .int .i64 5)]) ([]) =
    (AV.str [114, 101, 109, 111, 118, 101] = v) := by kernel_rfl
  exact unr_ok hT 100000 _ _ _ _ (e.mpr H)

theorem t22_6 {v : AV}  (hT : TabOk cfg (ctab [])) (H :
    AV.str [99, 111, 109, 109, 101, 110, 116] = v) :
    ToEnd cfg 22 (bodyOf Tryd.f22) (RetIs Tryd.prog Tryd.f22 v) ([.code []]) .normal ([(0, true, .int .i64 6)]) ([]) := by
  have e : unr cfg 22 (bodyOf Tryd.f22) (ctab []) ⟨[], []⟩ (RetIs Tryd.prog Tryd.f22 v) 100000 ([.code []]) .normal ([(0, true, .int .i64 6)]) ([]) =
    (AV.str [99, 111, 109, 109, 101, 110, 116] = v) := by kernel_rfl
  exact unr_ok hT 100000 _ _ _ _ (e.mpr H)

theorem t32_1 {v : AV} {sz : Nat} (hT : TabOk cfg (ctab [(41, needsC), (42, manyC)])) (H :
    AV.bool true = v) :
    ToEnd cfg 32 (bodyOf Tryd.f32) (RetIs Tryd.prog Tryd.f32 v) ([.code []]) .normal ([(0, true, .int .i64 1), (1, true, .sl sz [] none)]) ([]) := by
  have e : unr cfg 32 (bodyOf Tryd.f32) (ctab [(41, needsC), (42, manyC)]) ⟨[], [([0, 0, 0, 0, 1, 0, 0, 1, 0, 1, 1, 1], 3, [.str, .str, .int .i64]), ([0, 0, 0, 0, 1, 0, 0, 1, 0, 1, 1, 1], 10, [.str, .str, .int .i64]), ([0, 0, 0, 0, 1, 0, 0, 1, 0, 1, 1, 1], 19, [.str, .str, .int .i64]), ([0, 0, 0, 0, 1, 0, 0, 1, 0, 1, 1, 1], 28, [.str, .str, .int .i64]), ([1, 0, 0, 1, 0, 0, 1, 0, 1, 1, 1], 3, [.str, .str, .int .i64])]⟩ (RetIs Tryd.prog Tryd.f32 v) 100000 ([.code []]) .normal ([(0, true, .int .i64 1), (1, true, .sl sz [] none)]) ([]) =
    (AV.bool true = v) := by kernel_rfl
  exact unr_ok hT 100000 _ _ _ _ (e.mpr H)

theorem t32_2 {v : AV} {sz : Nat} (hT : TabOk cfg (ctab [(41, needsC), (42, manyC)])) (H :
    AV.bool true = v) :
    ToEnd cfg 32 (bodyOf Tryd.f32) (RetIs Tryd.prog Tryd.f32 v) ([.code []]) .normal ([(0, true, .int .i64 2), (1, true, .sl sz [] none)]) ([]) := by
  have e : unr cfg 32 (bodyOf Tryd.f32) (ctab [(41, needsC), (42, manyC)]) ⟨[], [([0, 0, 0, 0, 1, 0, 0, 1, 0, 1, 1, 1], 3, [.str, .str, .int .i64]), ([0, 0, 0, 0, 1, 0, 0, 1, 0, 1, 1, 1], 10, [.str, .str, .int .i64]), ([0, 0, 0, 0, 1, 0, 0, 1, 0, 1, 1, 1], 19, [.str, .str, .int .i64]), ([0, 0, 0, 0, 1, 0, 0, 1, 0, 1, 1, 1], 28, [.str, .str, .int .i64]), ([1, 0, 0, 1, 0, 0, 1, 0, 1, 1, 1], 3, [.str, .str, .int .i64])]⟩ (RetIs Tryd.prog Tryd.f32 v) 100000 ([.code []]) .normal ([(0, true, .int .i64 2), (1, true, .sl sz [] none)]) ([]) =
    (AV.bool true = v) := by kernel_rfl
  exact unr_ok hT 100000 _ _ _ _ (e.mpr H)

theorem t32_5 {v : AV} {sz : Nat} (hT : TabOk cfg (ctab [(41, needsC), (42, manyC)])) (H :
    AV.bool true = v) :
    ToEnd cfg 32 (bodyOf Tryd.f32) (RetIs Tryd.prog Tryd.f32 v) ([.code []]) .normal ([(0, true, .int .i64 5), (1, true, .sl sz [] none)]) ([]) := by
  have e : unr cfg 32 (bodyOf Tryd.f32) (ctab [(41, needsC), (42, manyC)]) ⟨[], [([0, 0, 0, 0, 1, 0, 0, 1, 0, 1, 1, 1], 3, [.str, .str, .int .i64]), ([0, 0, 0, 0, 1, 0, 0, 1, 0, 1, 1, 1], 10, [.str, .str, .int .i64]), ([0, 0, 0, 0, 1, 0, 0, 1, 0, 1, 1, 1], 19, [.str, .str, .int .i64]), ([0, 0, 0, 0, 1, 0, 0, 1, 0, 1, 1, 1], 28, [.str, .str, .int .i64]), ([1, 0, 0, 1, 0, 0, 1, 0, 1, 1, 1], 3, [.str, .str, .int .i64])]⟩ (RetIs Tryd.prog Tryd.f32 v) 100000 ([.code []]) .normal ([(0, true, .int .i64 5), (1, true, .sl sz [] none)]) ([]) =
    (AV.bool true = v) := by kernel_rfl
  exact unr_ok hT 100000 _ _ _ _ (e.mpr H)

theorem t32x {v : AV} {z : List UInt8} (hT : TabOk cfg (ctab [(41, needsC), (42, manyC), (43, valZC)])) (H :
    ∃ (s1 : List UInt8), ∃ (s2 : List UInt8), ∃ (z3 : Int), [AV.str [116, 101, 120, 116], AV.str z, AV.int IntKind.i64 0] = [AV.str s1, AV.str s2, AV.int IntKind.i64 z3] ∧ [116, 101, 120, 116] = s1 ∧ ∃ (s4 : List UInt8), ∃ (s5 : List UInt8), ∃ (z6 : Int), [AV.str [116, 101, 120, 116], AV.str z, AV.int IntKind.i64 0] = [AV.str s4, AV.str s5, AV.int IntKind.i64 z6] ∧ ∃ (s7 : List UInt8), ∃ (s8 : List UInt8), ∃ (z9 : Int), [AV.str [116, 101, 120, 116], AV.str z, AV.int IntKind.i64 0] = [AV.str s7, AV.str s8, AV.int IntKind.i64 z9] ∧ ∃ (n10 : Nat), n10 ≤ 1000000 ∧ [AV.agg [AV.str s7, AV.str s8, AV.int IntKind.i64 z9]] = [AV.agg [AV.str [116, 101, 120, 116], AV.str (zs n10), AV.int IntKind.i64 0]] ∧ ∃ (s11 : List UInt8), ∃ (s12 : List UInt8), ∃ (z13 : Int), [AV.str [116, 101, 120, 116], AV.str z, AV.int IntKind.i64 0] = [AV.str s11, AV.str s12, AV.int IntKind.i64 z13] ∧ ∃ (s14 : List UInt8), ∃ (s15 : List UInt8), ∃ (z16 : Int), [AV.str [116, 101, 120, 116], AV.str z, AV.int IntKind.i64 0] = [AV.str s14, AV.str s15, AV.int IntKind.i64 z16] ∧ s14 = [116, 101, 120, 116] ∧ AV.bool true = v) :
    ToEnd cfg 32 (bodyOf Tryd.f32) (RetIs Tryd.prog Tryd.f32 v) ([.code []]) .normal ([(0, true, .int .i64 6), (1, true, .sl 3 [[.str [116, 101, 120, 116], .str z, .int .i64 0]] none)]) ([]) := by
  have e : unr cfg 32 (bodyOf Tryd.f32) (ctab [(41, needsC), (42, manyC), (43, valZC)]) ⟨[], [([0, 0, 0, 0, 1, 0, 0, 1, 0, 1, 1, 1], 3, [.str, .str, .int .i64]), ([0, 0, 0, 0, 1, 0, 0, 1, 0, 1, 1, 1], 10, [.str, .str, .int .i64]), ([0, 0, 0, 0, 1, 0, 0, 1, 0, 1, 1, 1], 19, [.str, .str, .int .i64]), ([0, 0, 0, 0, 1, 0, 0, 1, 0, 1, 1, 1], 28, [.str, .str, .int .i64]), ([1, 0, 0, 1, 0, 0, 1, 0, 1, 1, 1], 3, [.str, .str, .int .i64])]⟩ (RetIs Tryd.prog Tryd.f32 v) 100000 ([.code []]) .normal ([(0, true, .int .i64 6), (1, true, .sl 3 [[.str [116, 101, 120, 116], .str z, .int .i64 0]] none)]) ([]) =
    (∃ (s1 : List UInt8), ∃ (s2 : List UInt8), ∃ (z3 : Int), [AV.str [116, 101, 120, 116], AV.str z, AV.int IntKind.i64 0] = [AV.str s1, AV.str s2, AV.int IntKind.i64 z3] ∧ [116, 101, 120, 116] = s1 ∧ ∃ (s4 : List UInt8), ∃ (s5 : List UInt8), ∃ (z6 : Int), [AV.str [116, 101, 120, 116], AV.str z, AV.int IntKind.i64 0] = [AV.str s4, AV.str s5, AV.int IntKind.i64 z6] ∧ ∃ (s7 : List UInt8), ∃ (s8 : List UInt8), ∃ (z9 : Int), [AV.str [116, 101, 120, 116], AV.str z, AV.int IntKind.i64 0] = [AV.str s7, AV.str s8, AV.int IntKind.i64 z9] ∧ ∃ (n10 : Nat), n10 ≤ 1000000 ∧ [AV.agg [AV.str s7, AV.str s8, AV.int IntKind.i64 z9]] = [AV.agg [AV.str [116, 101, 120, 116], AV.str (zs n10), AV.int IntKind.i64 0]] ∧ ∃ (s11 : List UInt8), ∃ (s12 : List UInt8), ∃ (z13 : Int), [AV.str [116, 101, 120, 116], AV.str z, AV.int IntKind.i64 0] = [AV.str s11, AV.str s12, AV.int IntKind.i64 z13] ∧ ∃ (s14 : List UInt8), ∃ (s15 : List UInt8), ∃ (z16 : Int), [AV.str [116, 101, 120, 116], AV.str z, AV.int IntKind.i64 0] = [AV.str s14, AV.str s15, AV.int IntKind.i64 z16] ∧ s14 = [116, 101, 120, 116] ∧ AV.bool true = v) := by kernel_rfl
  exact unr_ok hT 100000 _ _ _ _ (e.mpr H)

theorem t33_2 {v : AV} {z : List UInt8} (hT : TabOk cfg (ctab [(44, tagZC), (45, hasZC)])) (H :
    ifP (!z == []) (∃ (n1 : Nat), n1 ≤ 1000000 ∧ [AV.str z] = [AV.str (zs n1)] ∧ AV.bool true = v) (AV.bool false = v)) :
    ToEnd cfg 33 (bodyOf Tryd.f33) (RetIs Tryd.prog Tryd.f33 v) ([.code []]) .normal ([(0, true, .int .i64 2), (1, true, .str z), (2, true, .bool false)]) ([]) := by
  have e : unr cfg 33 (bodyOf Tryd.f33) (ctab [(44, tagZC), (45, hasZC)]) ⟨[], []⟩ (RetIs Tryd.prog Tryd.f33 v) 100000 ([.code []]) .normal ([(0, true, .int .i64 2), (1, true, .str z), (2, true, .bool false)]) ([]) =
    (ifP (!z == []) (∃ (n1 : Nat), n1 ≤ 1000000 ∧ [AV.str z] = [AV.str (zs n1)] ∧ AV.bool true = v) (AV.bool false = v)) := by kernel_rfl
  exact unr_ok hT 100000 _ _ _ _ (e.mpr H)

theorem t33_5 {v : AV} {z : List UInt8} (hT : TabOk cfg (ctab [(44, tagZC), (45, hasZC)])) (H :
    ∃ (n1 : Nat), ∃ (c2 : UInt8), ∃ (r3 : List UInt8), n1 ≤ 1000000 ∧ c2 ≠ 0 ∧ List.length r3 ≤ 100 ∧ [AV.str z, AV.str [60, 47, 101, 115, 105, 58, 114, 101, 109, 111, 118, 101]] = [AV.str (zs n1), AV.str (c2 :: r3)] ∧ ∃ (n4 : Nat), ∃ (c5 : UInt8), ∃ (r6 : List UInt8), n4 ≤ 1000000 ∧ c5 ≠ 0 ∧ List.length r6 ≤ 100 ∧ [AV.str z, AV.str [60, 101, 115, 105, 58]] = [AV.str (zs n4), AV.str (c5 :: r6)] ∧ AV.bool true = v) :
    ToEnd cfg 33 (bodyOf Tryd.f33) (RetIs Tryd.prog Tryd.f33 v) ([.code []]) .normal ([(0, true, .int .i64 5), (1, true, .str z), (2, true, .bool false)]) ([]) := by
  have e : unr cfg 33 (bodyOf Tryd.f33) (ctab [(44, tagZC), (45, hasZC)]) ⟨[], []⟩ (RetIs Tryd.prog Tryd.f33 v) 100000 ([.code []]) .normal ([(0, true, .int .i64 5), (1, true, .str z), (2, true, .bool false)]) ([]) =
    (∃ (n1 : Nat), ∃ (c2 : UInt8), ∃ (r3 : List UInt8), n1 ≤ 1000000 ∧ c2 ≠ 0 ∧ List.length r3 ≤ 100 ∧ [AV.str z, AV.str [60, 47, 101, 115, 105, 58, 114, 101, 109, 111, 118, 101]] = [AV.str (zs n1), AV.str (c2 :: r3)] ∧ ∃ (n4 : Nat), ∃ (c5 : UInt8), ∃ (r6 : List UInt8), n4 ≤ 1000000 ∧ c5 ≠ 0 ∧ List.length r6 ≤ 100 ∧ [AV.str z, AV.str [60, 101, 115, 105, 58]] = [AV.str (zs n4), AV.str (c5 :: r6)] ∧ AV.bool true = v) := by kernel_rfl
  exact unr_ok hT 100000 _ _ _ _ (e.mpr H)

theorem t33_1 {v : AV}  (hT : TabOk cfg (ctab [(44, tagZC), (45, hasZC)])) (H :
    AV.bool true = v) :
    ToEnd cfg 33 (bodyOf Tryd.f33) (RetIs Tryd.prog Tryd.f33 v) ([.code []]) .normal ([(0, true, .int .i64 1), (1, true, .str []), (2, true, .bool false)]) ([]) := by
  have e : unr cfg 33 (bodyOf Tryd.f33) (ctab [(44, tagZC), (45, hasZC)]) ⟨[], []⟩ (RetIs Tryd.prog Tryd.f33 v) 100000 ([.code []]) .normal ([(0, true, .int .i64 1), (1, true, .str []), (2, true, .bool false)]) ([]) =
    (AV.bool true = v) := by kernel_rfl
  exact unr_ok hT 100000 _ _ _ _ (e.mpr H)

theorem t33_6 {v : AV}  (hT : TabOk cfg (ctab [(44, tagZC), (45, hasZC)])) (H :
    AV.bool true = v) :
    ToEnd cfg 33 (bodyOf Tryd.f33) (RetIs Tryd.prog Tryd.f33 v) ([.code []]) .normal ([(0, true, .int .i64 6), (1, true, .str []), (2, true, .bool false)]) ([]) := by
  have e : unr cfg 33 (bodyOf Tryd.f33) (ctab [(44, tagZC), (45, hasZC)]) ⟨[], []⟩ (RetIs Tryd.prog Tryd.f33 v) 100000 ([.code []]) .normal ([(0, true, .int .i64 6), (1, true, .str []), (2, true, .bool false)]) ([]) =
    (AV.bool true = v) := by kernel_rfl
  exact unr_ok hT 100000 _ _ _ _ (e.mpr H)

theorem t21_0 {v : AV} {z : List UInt8} (hT : TabOk cfg (ctab [(32, attrsZC), (33, textZC)])) (H :
    ∃ (n1 : Nat), n1 ≤ 1000000 ∧ z = zs n1 ∧ ifP (!!z == []) (AV.int IntKind.i64 4 = v) (AV.int IntKind.i64 0 = v)) :
    ToEnd cfg 21 (bodyOf Tryd.f21) (RetIs Tryd.prog Tryd.f21 v) ([.code []]) .normal ([(0, true, .agg [.int .i64 2, .int .i64 0, .str z, .sl 3 [] none, .sl 5 [] none]), (1, true, .int .i64 1), (2, true, .bool false), (3, true, .bool false)]) ([]) := by
  have e : unr cfg 21 (bodyOf Tryd.f21) (ctab [(32, attrsZC), (33, textZC)]) ⟨[], [([0, 0, 0, 1, 0, 0, 1, 0, 1, 1, 1, 1, 1, 1, 1], 3, [.int .i64, .int .i64, .str, .sl 3, .sl 5]), ([0, 1, 1, 1, 1, 1, 0, 0, 1, 0, 0, 1, 0, 1, 1, 1, 1, 1, 1, 1], 3, [.int .i64, .int .i64, .str, .sl 3, .sl 5]), ([0, 1, 1, 1, 1, 1, 0, 0, 1, 0, 0, 1, 0, 1, 1, 1, 1, 1, 1, 1], 20, [.int .i64, .int .i64, .str, .sl 3, .sl 5])]⟩ (RetIs Tryd.prog Tryd.f21 v) 100000 ([.code []]) .normal ([(0, true, .agg [.int .i64 2, .int .i64 0, .str z, .sl 3 [] none, .sl 5 [] none]), (1, true, .int .i64 1), (2, true, .bool false), (3, true, .bool false)]) ([]) =
    (∃ (n1 : Nat), n1 ≤ 1000000 ∧ z = zs n1 ∧ ifP (!!z == []) (AV.int IntKind.i64 4 = v) (AV.int IntKind.i64 0 = v)) := by kernel_rfl
  exact unr_ok hT 100000 _ _ _ _ (e.mpr H)

theorem t21_1 {v : AV} {z : List UInt8} (hT : TabOk cfg (ctab [(32, attrsZC), (33, textZC)])) (H :
    ∃ (n1 : Nat), n1 ≤ 1000000 ∧ z = zs n1 ∧ AV.int IntKind.i64 0 = v) :
    ToEnd cfg 21 (bodyOf Tryd.f21) (RetIs Tryd.prog Tryd.f21 v) ([.code []]) .normal ([(0, true, .agg [.int .i64 5, .int .i64 0, .str z, .sl 3 [] none, .sl 5 [] none]), (1, true, .int .i64 1), (2, true, .bool false), (3, true, .bool false)]) ([]) := by
  have e : unr cfg 21 (bodyOf Tryd.f21) (ctab [(32, attrsZC), (33, textZC)]) ⟨[], [([0, 0, 0, 1, 0, 0, 1, 0, 1, 1, 1, 1, 1, 1, 1], 3, [.int .i64, .int .i64, .str, .sl 3, .sl 5]), ([0, 1, 1, 1, 1, 1, 0, 0, 1, 0, 0, 1, 0, 1, 1, 1, 1, 1, 1, 1], 3, [.int .i64, .int .i64, .str, .sl 3, .sl 5]), ([0, 1, 1, 1, 1, 1, 0, 0, 1, 0, 0, 1, 0, 1, 1, 1, 1, 1, 1, 1], 20, [.int .i64, .int .i64, .str, .sl 3, .sl 5])]⟩ (RetIs Tryd.prog Tryd.f21 v) 100000 ([.code []]) .normal ([(0, true, .agg [.int .i64 5, .int .i64 0, .str z, .sl 3 [] none, .sl 5 [] none]), (1, true, .int .i64 1), (2, true, .bool false), (3, true, .bool false)]) ([]) =
    (∃ (n1 : Nat), n1 ≤ 1000000 ∧ z = zs n1 ∧ AV.int IntKind.i64 0 = v) := by kernel_rfl
  exact unr_ok hT 100000 _ _ _ _ (e.mpr H)

theorem t21_2 {v : AV} {z : List UInt8} (hT : TabOk cfg (ctab [(32, attrsZC), (33, textZC)])) (H :
    ∃ (n1 : Nat), n1 ≤ 1000000 ∧ true = true ∧ true = true ∧ true = true ∧ z = zs n1 ∧ true = true ∧ AV.int IntKind.i64 0 = v) :
    ToEnd cfg 21 (bodyOf Tryd.f21) (RetIs Tryd.prog Tryd.f21 v) ([.code []]) .normal ([(0, true, .agg [.int .i64 6, .int .i64 0, .str [], .sl 3 [[.str [116, 101, 120, 116], .str z, .int .i64 0]] none, .sl 5 [] none]), (1, true, .int .i64 1), (2, true, .bool false), (3, true, .bool false)]) ([]) := by
  have e : unr cfg 21 (bodyOf Tryd.f21) (ctab [(32, attrsZC), (33, textZC)]) ⟨[], [([0, 0, 0, 1, 0, 0, 1, 0, 1, 1, 1, 1, 1, 1, 1], 3, [.int .i64, .int .i64, .str, .sl 3, .sl 5]), ([0, 1, 1, 1, 1, 1, 0, 0, 1, 0, 0, 1, 0, 1, 1, 1, 1, 1, 1, 1], 3, [.int .i64, .int .i64, .str, .sl 3, .sl 5]), ([0, 1, 1, 1, 1, 1, 0, 0, 1, 0, 0, 1, 0, 1, 1, 1, 1, 1, 1, 1], 20, [.int .i64, .int .i64, .str, .sl 3, .sl 5])]⟩ (RetIs Tryd.prog Tryd.f21 v) 100000 ([.code []]) .normal ([(0, true, .agg [.int .i64 6, .int .i64 0, .str [], .sl 3 [[.str [116, 101, 120, 116], .str z, .int .i64 0]] none, .sl 5 [] none]), (1, true, .int .i64 1), (2, true, .bool false), (3, true, .bool false)]) ([]) =
    (∃ (n1 : Nat), n1 ≤ 1000000 ∧ true = true ∧ true = true ∧ true = true ∧ z = zs n1 ∧ true = true ∧ AV.int IntKind.i64 0 = v) := by kernel_rfl
  exact unr_ok hT 100000 _ _ _ _ (e.mpr H)

theorem t21p0 {v : AV} {z : List UInt8} (hT : TabOk cfg (ctab [(32, attrsZC), (33, textZC), (34, kindC), (21, lookZC)])) (H :
    true = true ∧ ∃ (z1 : Int), ∃ (z2 : Int), ∃ (s3 : List UInt8), ∃ (es4 : List (List AV)), ∃ (es5 : List (List AV)), [AV.int IntKind.i64 2, AV.int IntKind.i64 0, AV.str z, AV.sl 3 [] none, AV.sl 5 [] none] = [AV.int IntKind.i64 z1, AV.int IntKind.i64 z2, AV.str s3, AV.sl 3 es4 none, AV.sl 5 es5 none] ∧ ∃ (k6 : Int), [AV.int IntKind.i64 z1] = [AV.int IntKind.i64 k6] ∧ (k6 = 2 ∨ k6 = 5 ∨ k6 = 6) ∧ ∃ (z7 : Int), ∃ (z8 : Int), ∃ (s9 : List UInt8), ∃ (es10 : List (List AV)), ∃ (es11 : List (List AV)), [AV.int IntKind.i64 2, AV.int IntKind.i64 0, AV.str z, AV.sl 3 [] none, AV.sl 5 [] none] = [AV.int IntKind.i64 z7, AV.int IntKind.i64 z8, AV.str s9, AV.sl 3 es10 none, AV.sl 5 es11 none] ∧ ∃ (k12 : Nat), ∃ (n13 : Nat), k12 < 3 ∧ n13 ≤ 1000000 ∧ [AV.agg [AV.int IntKind.i64 z7, AV.int IntKind.i64 z8, AV.str s9, AV.sl 3 (stripss 0 [] es10) none, AV.sl 5 (stripss 0 [] es11) none], AV.int IntKind.i64 1, AV.bool false, AV.bool false] = [AV.agg (encN (lf k12 n13)), AV.int IntKind.i64 1, AV.bool false, AV.bool false] ∧ ifP (lookE k12 n13 != 0) (AV.int IntKind.i64 (lookE k12 n13) = v) (AV.int IntKind.i64 0 = v)) :
    ToEnd cfg 21 (bodyOf Tryd.f21) (RetIs Tryd.prog Tryd.f21 v) ([.code []]) .normal ([(0, true, .agg [.int .i64 1, .int .i64 0, .str [], .sl 3 [] none, .sl 5 [[.int .i64 2, .int .i64 0, .str z, .sl 3 [] none, .sl 5 [] none]] none]), (1, true, .int .i64 0), (2, true, .bool false), (3, true, .bool false)]) ([]) := by
  have e : unr cfg 21 (bodyOf Tryd.f21) (ctab [(32, attrsZC), (33, textZC), (34, kindC), (21, lookZC)]) ⟨[], [([0, 0, 0, 1, 0, 0, 1, 0, 1, 1, 1, 1, 1, 1, 1], 3, [.int .i64, .int .i64, .str, .sl 3, .sl 5]), ([0, 1, 1, 1, 1, 1, 0, 0, 1, 0, 0, 1, 0, 1, 1, 1, 1, 1, 1, 1], 3, [.int .i64, .int .i64, .str, .sl 3, .sl 5]), ([0, 1, 1, 1, 1, 1, 0, 0, 1, 0, 0, 1, 0, 1, 1, 1, 1, 1, 1, 1], 20, [.int .i64, .int .i64, .str, .sl 3, .sl 5])]⟩ (RetIs Tryd.prog Tryd.f21 v) 100000 ([.code []]) .normal ([(0, true, .agg [.int .i64 1, .int .i64 0, .str [], .sl 3 [] none, .sl 5 [[.int .i64 2, .int .i64 0, .str z, .sl 3 [] none, .sl 5 [] none]] none]), (1, true, .int .i64 0), (2, true, .bool false), (3, true, .bool false)]) ([]) =
    (true = true ∧ ∃ (z1 : Int), ∃ (z2 : Int), ∃ (s3 : List UInt8), ∃ (es4 : List (List AV)), ∃ (es5 : List (List AV)), [AV.int IntKind.i64 2, AV.int IntKind.i64 0, AV.str z, AV.sl 3 [] none, AV.sl 5 [] none] = [AV.int IntKind.i64 z1, AV.int IntKind.i64 z2, AV.str s3, AV.sl 3 es4 none, AV.sl 5 es5 none] ∧ ∃ (k6 : Int), [AV.int IntKind.i64 z1] = [AV.int IntKind.i64 k6] ∧ (k6 = 2 ∨ k6 = 5 ∨ k6 = 6) ∧ ∃ (z7 : Int), ∃ (z8 : Int), ∃ (s9 : List UInt8), ∃ (es10 : List (List AV)), ∃ (es11 : List (List AV)), [AV.int IntKind.i64 2, AV.int IntKind.i64 0, AV.str z, AV.sl 3 [] none, AV.sl 5 [] none] = [AV.int IntKind.i64 z7, AV.int IntKind.i64 z8, AV.str s9, AV.sl 3 es10 none, AV.sl 5 es11 none] ∧ ∃ (k12 : Nat), ∃ (n13 : Nat), k12 < 3 ∧ n13 ≤ 1000000 ∧ [AV.agg [AV.int IntKind.i64 z7, AV.int IntKind.i64 z8, AV.str s9, AV.sl 3 (stripss 0 [] es10) none, AV.sl 5 (stripss 0 [] es11) none], AV.int IntKind.i64 1, AV.bool false, AV.bool false] = [AV.agg (encN (lf k12 n13)), AV.int IntKind.i64 1, AV.bool false, AV.bool false] ∧ ifP (lookE k12 n13 != 0) (AV.int IntKind.i64 (lookE k12 n13) = v) (AV.int IntKind.i64 0 = v)) := by kernel_rfl
  exact unr_ok hT 100000 _ _ _ _ (e.mpr H)

theorem t21p1 {v : AV} {z : List UInt8} (hT : TabOk cfg (ctab [(32, attrsZC), (33, textZC), (34, kindC), (21, lookZC)])) (H :
    true = true ∧ ∃ (z1 : Int), ∃ (z2 : Int), ∃ (s3 : List UInt8), ∃ (es4 : List (List AV)), ∃ (es5 : List (List AV)), [AV.int IntKind.i64 5, AV.int IntKind.i64 0, AV.str z, AV.sl 3 [] none, AV.sl 5 [] none] = [AV.int IntKind.i64 z1, AV.int IntKind.i64 z2, AV.str s3, AV.sl 3 es4 none, AV.sl 5 es5 none] ∧ ∃ (k6 : Int), [AV.int IntKind.i64 z1] = [AV.int IntKind.i64 k6] ∧ (k6 = 2 ∨ k6 = 5 ∨ k6 = 6) ∧ ∃ (z7 : Int), ∃ (z8 : Int), ∃ (s9 : List UInt8), ∃ (es10 : List (List AV)), ∃ (es11 : List (List AV)), [AV.int IntKind.i64 5, AV.int IntKind.i64 0, AV.str z, AV.sl 3 [] none, AV.sl 5 [] none] = [AV.int IntKind.i64 z7, AV.int IntKind.i64 z8, AV.str s9, AV.sl 3 es10 none, AV.sl 5 es11 none] ∧ ∃ (k12 : Nat), ∃ (n13 : Nat), k12 < 3 ∧ n13 ≤ 1000000 ∧ [AV.agg [AV.int IntKind.i64 z7, AV.int IntKind.i64 z8, AV.str s9, AV.sl 3 (stripss 0 [] es10) none, AV.sl 5 (stripss 0 [] es11) none], AV.int IntKind.i64 1, AV.bool false, AV.bool false] = [AV.agg (encN (lf k12 n13)), AV.int IntKind.i64 1, AV.bool false, AV.bool false] ∧ ifP (lookE k12 n13 != 0) (AV.int IntKind.i64 (lookE k12 n13) = v) (AV.int IntKind.i64 0 = v)) :
    ToEnd cfg 21 (bodyOf Tryd.f21) (RetIs Tryd.prog Tryd.f21 v) ([.code []]) .normal ([(0, true, .agg [.int .i64 1, .int .i64 0, .str [], .sl 3 [] none, .sl 5 [[.int .i64 5, .int .i64 0, .str z, .sl 3 [] none, .sl 5 [] none]] none]), (1, true, .int .i64 0), (2, true, .bool false), (3, true, .bool false)]) ([]) := by
  have e : unr cfg 21 (bodyOf Tryd.f21) (ctab [(32, attrsZC), (33, textZC), (34, kindC), (21, lookZC)]) ⟨[], [([0, 0, 0, 1, 0, 0, 1, 0, 1, 1, 1, 1, 1, 1, 1], 3, [.int .i64, .int .i64, .str, .sl 3, .sl 5]), ([0, 1, 1, 1, 1, 1, 0, 0, 1, 0, 0, 1, 0, 1, 1, 1, 1, 1, 1, 1], 3, [.int .i64, .int .i64, .str, .sl 3, .sl 5]), ([0, 1, 1, 1, 1, 1, 0, 0, 1, 0, 0, 1, 0, 1, 1, 1, 1, 1, 1, 1], 20, [.int .i64, .int .i64, .str, .sl 3, .sl 5])]⟩ (RetIs Tryd.prog Tryd.f21 v) 100000 ([.code []]) .normal ([(0, true, .agg [.int .i64 1, .int .i64 0, .str [], .sl 3 [] none, .sl 5 [[.int .i64 5, .int .i64 0, .str z, .sl 3 [] none, .sl 5 [] none]] none]), (1, true, .int .i64 0), (2, true, .bool false), (3, true, .bool false)]) ([]) =
    (true = true ∧ ∃ (z1 : Int), ∃ (z2 : Int), ∃ (s3 : List UInt8), ∃ (es4 : List (List AV)), ∃ (es5 : List (List AV)), [AV.int IntKind.i64 5, AV.int IntKind.i64 0, AV.str z, AV.sl 3 [] none, AV.sl 5 [] none] = [AV.int IntKind.i64 z1, AV.int IntKind.i64 z2, AV.str s3, AV.sl 3 es4 none, AV.sl 5 es5 none] ∧ ∃ (k6 : Int), [AV.int IntKind.i64 z1] = [AV.int IntKind.i64 k6] ∧ (k6 = 2 ∨ k6 = 5 ∨ k6 = 6) ∧ ∃ (z7 : Int), ∃ (z8 : Int), ∃ (s9 : List UInt8), ∃ (es10 : List (List AV)), ∃ (es11 : List (List AV)), [AV.int IntKind.i64 5, AV.int IntKind.i64 0, AV.str z, AV.sl 3 [] none, AV.sl 5 [] none] = [AV.int IntKind.i64 z7, AV.int IntKind.i64 z8, AV.str s9, AV.sl 3 es10 none, AV.sl 5 es11 none] ∧ ∃ (k12 : Nat), ∃ (n13 : Nat), k12 < 3 ∧ n13 ≤ 1000000 ∧ [AV.agg [AV.int IntKind.i64 z7, AV.int IntKind.i64 z8, AV.str s9, AV.sl 3 (stripss 0 [] es10) none, AV.sl 5 (stripss 0 [] es11) none], AV.int IntKind.i64 1, AV.bool false, AV.bool false] = [AV.agg (encN (lf k12 n13)), AV.int IntKind.i64 1, AV.bool false, AV.bool false] ∧ ifP (lookE k12 n13 != 0) (AV.int IntKind.i64 (lookE k12 n13) = v) (AV.int IntKind.i64 0 = v)) := by kernel_rfl
  exact unr_ok hT 100000 _ _ _ _ (e.mpr H)

theorem t21p2 {v : AV} {z : List UInt8} (hT : TabOk cfg (ctab [(32, attrsZC), (33, textZC), (34, kindC), (21, lookZC)])) (H :
    true = true ∧ ∃ (z1 : Int), ∃ (z2 : Int), ∃ (s3 : List UInt8), ∃ (es4 : List (List AV)), ∃ (es5 : List (List AV)), [AV.int IntKind.i64 6, AV.int IntKind.i64 0, AV.str [], AV.sl 3 [[AV.str [116, 101, 120, 116], AV.str z, AV.int IntKind.i64 0]] none, AV.sl 5 [] none] = [AV.int IntKind.i64 z1, AV.int IntKind.i64 z2, AV.str s3, AV.sl 3 es4 none, AV.sl 5 es5 none] ∧ ∃ (k6 : Int), [AV.int IntKind.i64 z1] = [AV.int IntKind.i64 k6] ∧ (k6 = 2 ∨ k6 = 5 ∨ k6 = 6) ∧ ∃ (z7 : Int), ∃ (z8 : Int), ∃ (s9 : List UInt8), ∃ (es10 : List (List AV)), ∃ (es11 : List (List AV)), [AV.int IntKind.i64 6, AV.int IntKind.i64 0, AV.str [], AV.sl 3 [[AV.str [116, 101, 120, 116], AV.str z, AV.int IntKind.i64 0]] none, AV.sl 5 [] none] = [AV.int IntKind.i64 z7, AV.int IntKind.i64 z8, AV.str s9, AV.sl 3 es10 none, AV.sl 5 es11 none] ∧ ∃ (k12 : Nat), ∃ (n13 : Nat), k12 < 3 ∧ n13 ≤ 1000000 ∧ [AV.agg [AV.int IntKind.i64 z7, AV.int IntKind.i64 z8, AV.str s9, AV.sl 3 (stripss 0 [] es10) none, AV.sl 5 (stripss 0 [] es11) none], AV.int IntKind.i64 1, AV.bool false, AV.bool false] = [AV.agg (encN (lf k12 n13)), AV.int IntKind.i64 1, AV.bool false, AV.bool false] ∧ ifP (lookE k12 n13 != 0) (AV.int IntKind.i64 (lookE k12 n13) = v) (AV.int IntKind.i64 0 = v)) :
    ToEnd cfg 21 (bodyOf Tryd.f21) (RetIs Tryd.prog Tryd.f21 v) ([.code []]) .normal ([(0, true, .agg [.int .i64 1, .int .i64 0, .str [], .sl 3 [] none, .sl 5 [[.int .i64 6, .int .i64 0, .str [], .sl 3 [[.str [116, 101, 120, 116], .str z, .int .i64 0]] none, .sl 5 [] none]] none]), (1, true, .int .i64 0), (2, true, .bool false), (3, true, .bool false)]) ([]) := by
  have e : unr cfg 21 (bodyOf Tryd.f21) (ctab [(32, attrsZC), (33, textZC), (34, kindC), (21, lookZC)]) ⟨[], [([0, 0, 0, 1, 0, 0, 1, 0, 1, 1, 1, 1, 1, 1, 1], 3, [.int .i64, .int .i64, .str, .sl 3, .sl 5]), ([0, 1, 1, 1, 1, 1, 0, 0, 1, 0, 0, 1, 0, 1, 1, 1, 1, 1, 1, 1], 3, [.int .i64, .int .i64, .str, .sl 3, .sl 5]), ([0, 1, 1, 1, 1, 1, 0, 0, 1, 0, 0, 1, 0, 1, 1, 1, 1, 1, 1, 1], 20, [.int .i64, .int .i64, .str, .sl 3, .sl 5])]⟩ (RetIs Tryd.prog Tryd.f21 v) 100000 ([.code []]) .normal ([(0, true, .agg [.int .i64 1, .int .i64 0, .str [], .sl 3 [] none, .sl 5 [[.int .i64 6, .int .i64 0, .str [], .sl 3 [[.str [116, 101, 120, 116], .str z, .int .i64 0]] none, .sl 5 [] none]] none]), (1, true, .int .i64 0), (2, true, .bool false), (3, true, .bool false)]) ([]) =
    (true = true ∧ ∃ (z1 : Int), ∃ (z2 : Int), ∃ (s3 : List UInt8), ∃ (es4 : List (List AV)), ∃ (es5 : List (List AV)), [AV.int IntKind.i64 6, AV.int IntKind.i64 0, AV.str [], AV.sl 3 [[AV.str [116, 101, 120, 116], AV.str z, AV.int IntKind.i64 0]] none, AV.sl 5 [] none] = [AV.int IntKind.i64 z1, AV.int IntKind.i64 z2, AV.str s3, AV.sl 3 es4 none, AV.sl 5 es5 none] ∧ ∃ (k6 : Int), [AV.int IntKind.i64 z1] = [AV.int IntKind.i64 k6] ∧ (k6 = 2 ∨ k6 = 5 ∨ k6 = 6) ∧ ∃ (z7 : Int), ∃ (z8 : Int), ∃ (s9 : List UInt8), ∃ (es10 : List (List AV)), ∃ (es11 : List (List AV)), [AV.int IntKind.i64 6, AV.int IntKind.i64 0, AV.str [], AV.sl 3 [[AV.str [116, 101, 120, 116], AV.str z, AV.int IntKind.i64 0]] none, AV.sl 5 [] none] = [AV.int IntKind.i64 z7, AV.int IntKind.i64 z8, AV.str s9, AV.sl 3 es10 none, AV.sl 5 es11 none] ∧ ∃ (k12 : Nat), ∃ (n13 : Nat), k12 < 3 ∧ n13 ≤ 1000000 ∧ [AV.agg [AV.int IntKind.i64 z7, AV.int IntKind.i64 z8, AV.str s9, AV.sl 3 (stripss 0 [] es10) none, AV.sl 5 (stripss 0 [] es11) none], AV.int IntKind.i64 1, AV.bool false, AV.bool false] = [AV.agg (encN (lf k12 n13)), AV.int IntKind.i64 1, AV.bool false, AV.bool false] ∧ ifP (lookE k12 n13 != 0) (AV.int IntKind.i64 (lookE k12 n13) = v) (AV.int IntKind.i64 0 = v)) := by kernel_rfl
  exact unr_ok hT 100000 _ _ _ _ (e.mpr H)

theorem t13_0 {v : AV} {z : List UInt8} (hT : TabOk cfg (ctab [(21, lookPC)])) (H :
    ∃ (k1 : Nat), ∃ (n2 : Nat), k1 < 3 ∧ n2 ≤ 1000000 ∧ [AV.agg [AV.int IntKind.i64 1, AV.int IntKind.i64 0, AV.str [], AV.sl 3 [] none, AV.sl 5 [[AV.int IntKind.i64 2, AV.int IntKind.i64 0, AV.str z, AV.sl 3 [] none, AV.sl 5 [] none]] none], AV.int IntKind.i64 0, AV.bool false, AV.bool false] = [AV.agg [AV.int IntKind.i64 1, AV.int IntKind.i64 0, AV.str [], AV.sl 3 [] none, AV.sl 5 [encN (lf k1 n2)] none], AV.int IntKind.i64 0, AV.bool false, AV.bool false] ∧ AV.int IntKind.i64 (lookE k1 n2) = v) :
    ToEnd cfg 13 (bodyOf Tryd.f13) (RetIs Tryd.prog Tryd.f13 v) ([.code []]) .normal ([(0, true, .agg [.int .i64 1, .int .i64 0, .str [], .sl 3 [] none, .sl 5 [[.int .i64 2, .int .i64 0, .str z, .sl 3 [] none, .sl 5 [] none]] none])]) ([]) := by
  have e : unr cfg 13 (bodyOf Tryd.f13) (ctab [(21, lookPC)]) ⟨[], []⟩ (RetIs Tryd.prog Tryd.f13 v) 100000 ([.code []]) .normal ([(0, true, .agg [.int .i64 1, .int .i64 0, .str [], .sl 3 [] none, .sl 5 [[.int .i64 2, .int .i64 0, .str z, .sl 3 [] none, .sl 5 [] none]] none])]) ([]) =
    (∃ (k1 : Nat), ∃ (n2 : Nat), k1 < 3 ∧ n2 ≤ 1000000 ∧ [AV.agg [AV.int IntKind.i64 1, AV.int IntKind.i64 0, AV.str [], AV.sl 3 [] none, AV.sl 5 [[AV.int IntKind.i64 2, AV.int IntKind.i64 0, AV.str z, AV.sl 3 [] none, AV.sl 5 [] none]] none], AV.int IntKind.i64 0, AV.bool false, AV.bool false] = [AV.agg [AV.int IntKind.i64 1, AV.int IntKind.i64 0, AV.str [], AV.sl 3 [] none, AV.sl 5 [encN (lf k1 n2)] none], AV.int IntKind.i64 0, AV.bool false, AV.bool false] ∧ AV.int IntKind.i64 (lookE k1 n2) = v) := by kernel_rfl
  exact unr_ok hT 100000 _ _ _ _ (e.mpr H)

theorem t13_1 {v : AV} {z : List UInt8} (hT : TabOk cfg (ctab [(21, lookPC)])) (H :
    ∃ (k1 : Nat), ∃ (n2 : Nat), k1 < 3 ∧ n2 ≤ 1000000 ∧ [AV.agg [AV.int IntKind.i64 1, AV.int IntKind.i64 0, AV.str [], AV.sl 3 [] none, AV.sl 5 [[AV.int IntKind.i64 5, AV.int IntKind.i64 0, AV.str z, AV.sl 3 [] none, AV.sl 5 [] none]] none], AV.int IntKind.i64 0, AV.bool false, AV.bool false] = [AV.agg [AV.int IntKind.i64 1, AV.int IntKind.i64 0, AV.str [], AV.sl 3 [] none, AV.sl 5 [encN (lf k1 n2)] none], AV.int IntKind.i64 0, AV.bool false, AV.bool false] ∧ AV.int IntKind.i64 (lookE k1 n2) = v) :
    ToEnd cfg 13 (bodyOf Tryd.f13) (RetIs Tryd.prog Tryd.f13 v) ([.code []]) .normal ([(0, true, .agg [.int .i64 1, .int .i64 0, .str [], .sl 3 [] none, .sl 5 [[.int .i64 5, .int .i64 0, .str z, .sl 3 [] none, .sl 5 [] none]] none])]) ([]) := by
  have e : unr cfg 13 (bodyOf Tryd.f13) (ctab [(21, lookPC)]) ⟨[], []⟩ (RetIs Tryd.prog Tryd.f13 v) 100000 ([.code []]) .normal ([(0, true, .agg [.int .i64 1, .int .i64 0, .str [], .sl 3 [] none, .sl 5 [[.int .i64 5, .int .i64 0, .str z, .sl 3 [] none, .sl 5 [] none]] none])]) ([]) =
    (∃ (k1 : Nat), ∃ (n2 : Nat), k1 < 3 ∧ n2 ≤ 1000000 ∧ [AV.agg [AV.int IntKind.i64 1, AV.int IntKind.i64 0, AV.str [], AV.sl 3 [] none, AV.sl 5 [[AV.int IntKind.i64 5, AV.int IntKind.i64 0, AV.str z, AV.sl 3 [] none, AV.sl 5 [] none]] none], AV.int IntKind.i64 0, AV.bool false, AV.bool false] = [AV.agg [AV.int IntKind.i64 1, AV.int IntKind.i64 0, AV.str [], AV.sl 3 [] none, AV.sl 5 [encN (lf k1 n2)] none], AV.int IntKind.i64 0, AV.bool false, AV.bool false] ∧ AV.int IntKind.i64 (lookE k1 n2) = v) := by kernel_rfl
  exact unr_ok hT 100000 _ _ _ _ (e.mpr H)

theorem t13_2 {v : AV} {z : List UInt8} (hT : TabOk cfg (ctab [(21, lookPC)])) (H :
    ∃ (k1 : Nat), ∃ (n2 : Nat), k1 < 3 ∧ n2 ≤ 1000000 ∧ [AV.agg [AV.int IntKind.i64 1, AV.int IntKind.i64 0, AV.str [], AV.sl 3 [] none, AV.sl 5 [[AV.int IntKind.i64 6, AV.int IntKind.i64 0, AV.str [], AV.sl 3 [[AV.str [116, 101, 120, 116], AV.str z, AV.int IntKind.i64 0]] none, AV.sl 5 [] none]] none], AV.int IntKind.i64 0, AV.bool false, AV.bool false] = [AV.agg [AV.int IntKind.i64 1, AV.int IntKind.i64 0, AV.str [], AV.sl 3 [] none, AV.sl 5 [encN (lf k1 n2)] none], AV.int IntKind.i64 0, AV.bool false, AV.bool false] ∧ AV.int IntKind.i64 (lookE k1 n2) = v) :
    ToEnd cfg 13 (bodyOf Tryd.f13) (RetIs Tryd.prog Tryd.f13 v) ([.code []]) .normal ([(0, true, .agg [.int .i64 1, .int .i64 0, .str [], .sl 3 [] none, .sl 5 [[.int .i64 6, .int .i64 0, .str [], .sl 3 [[.str [116, 101, 120, 116], .str z, .int .i64 0]] none, .sl 5 [] none]] none])]) ([]) := by
  have e : unr cfg 13 (bodyOf Tryd.f13) (ctab [(21, lookPC)]) ⟨[], []⟩ (RetIs Tryd.prog Tryd.f13 v) 100000 ([.code []]) .normal ([(0, true, .agg [.int .i64 1, .int .i64 0, .str [], .sl 3 [] none, .sl 5 [[.int .i64 6, .int .i64 0, .str [], .sl 3 [[.str [116, 101, 120, 116], .str z, .int .i64 0]] none, .sl 5 [] none]] none])]) ([]) =
    (∃ (k1 : Nat), ∃ (n2 : Nat), k1 < 3 ∧ n2 ≤ 1000000 ∧ [AV.agg [AV.int IntKind.i64 1, AV.int IntKind.i64 0, AV.str [], AV.sl 3 [] none, AV.sl 5 [[AV.int IntKind.i64 6, AV.int IntKind.i64 0, AV.str [], AV.sl 3 [[AV.str [116, 101, 120, 116], AV.str z, AV.int IntKind.i64 0]] none, AV.sl 5 [] none]] none], AV.int IntKind.i64 0, AV.bool false, AV.bool false] = [AV.agg [AV.int IntKind.i64 1, AV.int IntKind.i64 0, AV.str [], AV.sl 3 [] none, AV.sl 5 [encN (lf k1 n2)] none], AV.int IntKind.i64 0, AV.bool false, AV.bool false] ∧ AV.int IntKind.i64 (lookE k1 n2) = v) := by kernel_rfl
  exact unr_ok hT 100000 _ _ _ _ (e.mpr H)

theorem t14_0 {v : AV} {z : List UInt8} (hT : TabOk cfg (ctab [(22, nameC), (23, quoZC)])) (H :
    AV.str z = v) :
    ToEnd cfg 14 (bodyOf Tryd.f14) (RetIs Tryd.prog Tryd.f14 v) ([.code []]) .normal ([(0, true, .agg [.int .i64 2, .int .i64 0, .str z, .sl 3 [] none, .sl 5 [] none])]) ([]) := by
  have e : unr cfg 14 (bodyOf Tryd.f14) (ctab [(22, nameC), (23, quoZC)]) ⟨[], [([0, 0, 1, 0, 0, 1, 0, 1, 1], 4, [.int .i64, .int .i64, .str, .sl 3, .sl 5]), ([0, 0, 1, 0, 0, 1, 0, 1, 1, 1, 1, 1, 1, 1], 5, [.str, .str, .int .i64]), ([0, 0, 1, 0, 0, 1, 0, 1, 1, 1, 1, 1, 1, 1], 13, [.str, .str, .int .i64])]⟩ (RetIs Tryd.prog Tryd.f14 v) 100000 ([.code []]) .normal ([(0, true, .agg [.int .i64 2, .int .i64 0, .str z, .sl 3 [] none, .sl 5 [] none])]) ([]) =
    (AV.str z = v) := by kernel_rfl
  exact unr_ok hT 100000 _ _ _ _ (e.mpr H)

theorem t14_1 {v : AV} {z : List UInt8} (hT : TabOk cfg (ctab [(22, nameC), (23, quoZC)])) (H :
    gAnd (decide (12 + List.length z ≤ 9223372036854775807)) (gAnd (decide (List.length (60 :: 101 :: 115 :: 105 :: 58 :: 114 :: 101 :: 109 :: 111 :: 118 :: 101 :: 62 :: List.append [] z) + 6 ≤ 9223372036854775807)) (gAnd (decide (List.length (60 :: 101 :: 115 :: 105 :: 58 :: 114 :: 101 :: 109 :: 111 :: 118 :: 101 :: 62 :: List.append (List.append [] z) [60, 47, 101, 115, 105, 58]) + 6 ≤ 9223372036854775807)) (gAnd (decide (List.length (60 :: 101 :: 115 :: 105 :: 58 :: 114 :: 101 :: 109 :: 111 :: 118 :: 101 :: 62 :: List.append (List.append (List.append [] z) [60, 47, 101, 115, 105, 58]) [114, 101, 109, 111, 118, 101]) + 1 ≤ 9223372036854775807)) (AV.str (60 :: 101 :: 115 :: 105 :: 58 :: 114 :: 101 :: 109 :: 111 :: 118 :: 101 :: 62 :: List.append (List.append (List.append (List.append [] z) [60, 47, 101, 115, 105, 58]) [114, 101, 109, 111, 118, 101]) [62]) = v))))) :
    ToEnd cfg 14 (bodyOf Tryd.f14) (RetIs Tryd.prog Tryd.f14 v) ([.code []]) .normal ([(0, true, .agg [.int .i64 5, .int .i64 0, .str z, .sl 3 [] none, .sl 5 [] none])]) ([]) := by
  have e : unr cfg 14 (bodyOf Tryd.f14) (ctab [(22, nameC), (23, quoZC)]) ⟨[], [([0, 0, 1, 0, 0, 1, 0, 1, 1], 4, [.int .i64, .int .i64, .str, .sl 3, .sl 5]), ([0, 0, 1, 0, 0, 1, 0, 1, 1, 1, 1, 1, 1, 1], 5, [.str, .str, .int .i64]), ([0, 0, 1, 0, 0, 1, 0, 1, 1, 1, 1, 1, 1, 1], 13, [.str, .str, .int .i64])]⟩ (RetIs Tryd.prog Tryd.f14 v) 100000 ([.code []]) .normal ([(0, true, .agg [.int .i64 5, .int .i64 0, .str z, .sl 3 [] none, .sl 5 [] none])]) ([]) =
    (gAnd (decide (12 + List.length z ≤ 9223372036854775807)) (gAnd (decide (List.length (60 :: 101 :: 115 :: 105 :: 58 :: 114 :: 101 :: 109 :: 111 :: 118 :: 101 :: 62 :: List.append [] z) + 6 ≤ 9223372036854775807)) (gAnd (decide (List.length (60 :: 101 :: 115 :: 105 :: 58 :: 114 :: 101 :: 109 :: 111 :: 118 :: 101 :: 62 :: List.append (List.append [] z) [60, 47, 101, 115, 105, 58]) + 6 ≤ 9223372036854775807)) (gAnd (decide (List.length (60 :: 101 :: 115 :: 105 :: 58 :: 114 :: 101 :: 109 :: 111 :: 118 :: 101 :: 62 :: List.append (List.append (List.append [] z) [60, 47, 101, 115, 105, 58]) [114, 101, 109, 111, 118, 101]) + 1 ≤ 9223372036854775807)) (AV.str (60 :: 101 :: 115 :: 105 :: 58 :: 114 :: 101 :: 109 :: 111 :: 118 :: 101 :: 62 :: List.append (List.append (List.append (List.append [] z) [60, 47, 101, 115, 105, 58]) [114, 101, 109, 111, 118, 101]) [62]) = v))))) := by kernel_rfl
  exact unr_ok hT 100000 _ _ _ _ (e.mpr H)

theorem t14_2 {v : AV} {z : List UInt8} (hT : TabOk cfg (ctab [(22, nameC), (23, quoZC)])) (H :
    ∃ (s1 : List UInt8), ∃ (s2 : List UInt8), ∃ (z3 : Int), [AV.str [116, 101, 120, 116], AV.str z, AV.int IntKind.i64 0] = [AV.str s1, AV.str s2, AV.int IntKind.i64 z3] ∧ gAnd (decide (13 + List.length s1 ≤ 9223372036854775807)) (gAnd (decide (List.length (60 :: 101 :: 115 :: 105 :: 58 :: 99 :: 111 :: 109 :: 109 :: 101 :: 110 :: 116 :: 32 :: List.append [] s1) + 1 ≤ 9223372036854775807)) (∃ (s4 : List UInt8), ∃ (s5 : List UInt8), ∃ (z6 : Int), [AV.str [116, 101, 120, 116], AV.str z, AV.int IntKind.i64 0] = [AV.str s4, AV.str s5, AV.int IntKind.i64 z6] ∧ ∃ (n7 : Nat), n7 ≤ 1000000 ∧ [AV.str s5] = [AV.str (zs n7)] ∧ gAnd (decide (List.length (60 :: 101 :: 115 :: 105 :: 58 :: 99 :: 111 :: 109 :: 109 :: 101 :: 110 :: 116 :: 32 :: List.append (List.append [] s1) [61]) + List.length (34 :: List.append (List.append [] (zs n7)) [34]) ≤ 9223372036854775807)) (gAnd (decide (List.length (60 :: 101 :: 115 :: 105 :: 58 :: 99 :: 111 :: 109 :: 109 :: 101 :: 110 :: 116 :: 32 :: List.append (List.append (List.append [] s1) [61]) (34 :: List.append (List.append [] (zs n7)) [34])) + 2 ≤ 9223372036854775807)) (AV.str (60 :: 101 :: 115 :: 105 :: 58 :: 99 :: 111 :: 109 :: 109 :: 101 :: 110 :: 116 :: 32 :: List.append (List.append (List.append (List.append [] s1) [61]) (34 :: List.append (List.append [] (zs n7)) [34])) [47, 62]) = v))))) :
    ToEnd cfg 14 (bodyOf Tryd.f14) (RetIs Tryd.prog Tryd.f14 v) ([.code []]) .normal ([(0, true, .agg [.int .i64 6, .int .i64 0, .str [], .sl 3 [[.str [116, 101, 120, 116], .str z, .int .i64 0]] none, .sl 5 [] none])]) ([]) := by
  have e : unr cfg 14 (bodyOf Tryd.f14) (ctab [(22, nameC), (23, quoZC)]) ⟨[], [([0, 0, 1, 0, 0, 1, 0, 1, 1], 4, [.int .i64, .int .i64, .str, .sl 3, .sl 5]), ([0, 0, 1, 0, 0, 1, 0, 1, 1, 1, 1, 1, 1, 1], 5, [.str, .str, .int .i64]), ([0, 0, 1, 0, 0, 1, 0, 1, 1, 1, 1, 1, 1, 1], 13, [.str, .str, .int .i64])]⟩ (RetIs Tryd.prog Tryd.f14 v) 100000 ([.code []]) .normal ([(0, true, .agg [.int .i64 6, .int .i64 0, .str [], .sl 3 [[.str [116, 101, 120, 116], .str z, .int .i64 0]] none, .sl 5 [] none])]) ([]) =
    (∃ (s1 : List UInt8), ∃ (s2 : List UInt8), ∃ (z3 : Int), [AV.str [116, 101, 120, 116], AV.str z, AV.int IntKind.i64 0] = [AV.str s1, AV.str s2, AV.int IntKind.i64 z3] ∧ gAnd (decide (13 + List.length s1 ≤ 9223372036854775807)) (gAnd (decide (List.length (60 :: 101 :: 115 :: 105 :: 58 :: 99 :: 111 :: 109 :: 109 :: 101 :: 110 :: 116 :: 32 :: List.append [] s1) + 1 ≤ 9223372036854775807)) (∃ (s4 : List UInt8), ∃ (s5 : List UInt8), ∃ (z6 : Int), [AV.str [116, 101, 120, 116], AV.str z, AV.int IntKind.i64 0] = [AV.str s4, AV.str s5, AV.int IntKind.i64 z6] ∧ ∃ (n7 : Nat), n7 ≤ 1000000 ∧ [AV.str s5] = [AV.str (zs n7)] ∧ gAnd (decide (List.length (60 :: 101 :: 115 :: 105 :: 58 :: 99 :: 111 :: 109 :: 109 :: 101 :: 110 :: 116 :: 32 :: List.append (List.append [] s1) [61]) + List.length (34 :: List.append (List.append [] (zs n7)) [34]) ≤ 9223372036854775807)) (gAnd (decide (List.length (60 :: 101 :: 115 :: 105 :: 58 :: 99 :: 111 :: 109 :: 109 :: 101 :: 110 :: 116 :: 32 :: List.append (List.append (List.append [] s1) [61]) (34 :: List.append (List.append [] (zs n7)) [34])) + 2 ≤ 9223372036854775807)) (AV.str (60 :: 101 :: 115 :: 105 :: 58 :: 99 :: 111 :: 109 :: 109 :: 101 :: 110 :: 116 :: 32 :: List.append (List.append (List.append (List.append [] s1) [61]) (34 :: List.append (List.append [] (zs n7)) [34])) [47, 62]) = v))))) := by kernel_rfl
  exact unr_ok hT 100000 _ _ _ _ (e.mpr H)

theorem t14p0 {v : AV} {z : List UInt8} (hT : TabOk cfg (ctab [(14, nodeZC)])) (H :
    ∃ (z1 : Int), ∃ (z2 : Int), ∃ (s3 : List UInt8), ∃ (es4 : List (List AV)), ∃ (es5 : List (List AV)), [AV.int IntKind.i64 2, AV.int IntKind.i64 0, AV.str z, AV.sl 3 [] none, AV.sl 5 [] none] = [AV.int IntKind.i64 z1, AV.int IntKind.i64 z2, AV.str s3, AV.sl 3 es4 none, AV.sl 5 es5 none] ∧ ∃ (k6 : Nat), ∃ (n7 : Nat), k6 < 3 ∧ n7 ≤ 1000000 ∧ [AV.agg [AV.int IntKind.i64 z1, AV.int IntKind.i64 z2, AV.str s3, AV.sl 3 (stripss 0 [] es4) none, AV.sl 5 (stripss 0 [] es5) none]] = [AV.agg (encN (lf k6 n7))] ∧ gAnd (decide (0 + List.length (lt k6 n7) ≤ 9223372036854775807)) (AV.str ([] ++ lt k6 n7) = v)) :
    ToEnd cfg 14 (bodyOf Tryd.f14) (RetIs Tryd.prog Tryd.f14 v) ([.code []]) .normal ([(0, true, .agg [.int .i64 1, .int .i64 0, .str [], .sl 3 [] none, .sl 5 [[.int .i64 2, .int .i64 0, .str z, .sl 3 [] none, .sl 5 [] none]] none])]) ([]) := by
  have e : unr cfg 14 (bodyOf Tryd.f14) (ctab [(14, nodeZC)]) ⟨[], [([0, 0, 1, 0, 0, 1, 0, 1, 1], 4, [.int .i64, .int .i64, .str, .sl 3, .sl 5]), ([0, 0, 1, 0, 0, 1, 0, 1, 1, 1, 1, 1, 1, 1], 5, [.str, .str, .int .i64]), ([0, 0, 1, 0, 0, 1, 0, 1, 1, 1, 1, 1, 1, 1], 13, [.str, .str, .int .i64])]⟩ (RetIs Tryd.prog Tryd.f14 v) 100000 ([.code []]) .normal ([(0, true, .agg [.int .i64 1, .int .i64 0, .str [], .sl 3 [] none, .sl 5 [[.int .i64 2, .int .i64 0, .str z, .sl 3 [] none, .sl 5 [] none]] none])]) ([]) =
    (∃ (z1 : Int), ∃ (z2 : Int), ∃ (s3 : List UInt8), ∃ (es4 : List (List AV)), ∃ (es5 : List (List AV)), [AV.int IntKind.i64 2, AV.int IntKind.i64 0, AV.str z, AV.sl 3 [] none, AV.sl 5 [] none] = [AV.int IntKind.i64 z1, AV.int IntKind.i64 z2, AV.str s3, AV.sl 3 es4 none, AV.sl 5 es5 none] ∧ ∃ (k6 : Nat), ∃ (n7 : Nat), k6 < 3 ∧ n7 ≤ 1000000 ∧ [AV.agg [AV.int IntKind.i64 z1, AV.int IntKind.i64 z2, AV.str s3, AV.sl 3 (stripss 0 [] es4) none, AV.sl 5 (stripss 0 [] es5) none]] = [AV.agg (encN (lf k6 n7))] ∧ gAnd (decide (0 + List.length (lt k6 n7) ≤ 9223372036854775807)) (AV.str ([] ++ lt k6 n7) = v)) := by kernel_rfl
  exact unr_ok hT 100000 _ _ _ _ (e.mpr H)

theorem t14p1 {v : AV} {z : List UInt8} (hT : TabOk cfg (ctab [(14, nodeZC)])) (H :
    ∃ (z1 : Int), ∃ (z2 : Int), ∃ (s3 : List UInt8), ∃ (es4 : List (List AV)), ∃ (es5 : List (List AV)), [AV.int IntKind.i64 5, AV.int IntKind.i64 0, AV.str z, AV.sl 3 [] none, AV.sl 5 [] none] = [AV.int IntKind.i64 z1, AV.int IntKind.i64 z2, AV.str s3, AV.sl 3 es4 none, AV.sl 5 es5 none] ∧ ∃ (k6 : Nat), ∃ (n7 : Nat), k6 < 3 ∧ n7 ≤ 1000000 ∧ [AV.agg [AV.int IntKind.i64 z1, AV.int IntKind.i64 z2, AV.str s3, AV.sl 3 (stripss 0 [] es4) none, AV.sl 5 (stripss 0 [] es5) none]] = [AV.agg (encN (lf k6 n7))] ∧ gAnd (decide (0 + List.length (lt k6 n7) ≤ 9223372036854775807)) (AV.str ([] ++ lt k6 n7) = v)) :
    ToEnd cfg 14 (bodyOf Tryd.f14) (RetIs Tryd.prog Tryd.f14 v) ([.code []]) .normal ([(0, true, .agg [.int .i64 1, .int .i64 0, .str [], .sl 3 [] none, .sl 5 [[.int .i64 5, .int .i64 0, .str z, .sl 3 [] none, .sl 5 [] none]] none])]) ([]) := by
  have e : unr cfg 14 (bodyOf Tryd.f14) (ctab [(14, nodeZC)]) ⟨[], [([0, 0, 1, 0, 0, 1, 0, 1, 1], 4, [.int .i64, .int .i64, .str, .sl 3, .sl 5]), ([0, 0, 1, 0, 0, 1, 0, 1, 1, 1, 1, 1, 1, 1], 5, [.str, .str, .int .i64]), ([0, 0, 1, 0, 0, 1, 0, 1, 1, 1, 1, 1, 1, 1], 13, [.str, .str, .int .i64])]⟩ (RetIs Tryd.prog Tryd.f14 v) 100000 ([.code []]) .normal ([(0, true, .agg [.int .i64 1, .int .i64 0, .str [], .sl 3 [] none, .sl 5 [[.int .i64 5, .int .i64 0, .str z, .sl 3 [] none, .sl 5 [] none]] none])]) ([]) =
    (∃ (z1 : Int), ∃ (z2 : Int), ∃ (s3 : List UInt8), ∃ (es4 : List (List AV)), ∃ (es5 : List (List AV)), [AV.int IntKind.i64 5, AV.int IntKind.i64 0, AV.str z, AV.sl 3 [] none, AV.sl 5 [] none] = [AV.int IntKind.i64 z1, AV.int IntKind.i64 z2, AV.str s3, AV.sl 3 es4 none, AV.sl 5 es5 none] ∧ ∃ (k6 : Nat), ∃ (n7 : Nat), k6 < 3 ∧ n7 ≤ 1000000 ∧ [AV.agg [AV.int IntKind.i64 z1, AV.int IntKind.i64 z2, AV.str s3, AV.sl 3 (stripss 0 [] es4) none, AV.sl 5 (stripss 0 [] es5) none]] = [AV.agg (encN (lf k6 n7))] ∧ gAnd (decide (0 + List.length (lt k6 n7) ≤ 9223372036854775807)) (AV.str ([] ++ lt k6 n7) = v)) := by kernel_rfl
  exact unr_ok hT 100000 _ _ _ _ (e.mpr H)

theorem t14p2 {v : AV} {z : List UInt8} (hT : TabOk cfg (ctab [(14, nodeZC)])) (H :
    ∃ (z1 : Int), ∃ (z2 : Int), ∃ (s3 : List UInt8), ∃ (es4 : List (List AV)), ∃ (es5 : List (List AV)), [AV.int IntKind.i64 6, AV.int IntKind.i64 0, AV.str [], AV.sl 3 [[AV.str [116, 101, 120, 116], AV.str z, AV.int IntKind.i64 0]] none, AV.sl 5 [] none] = [AV.int IntKind.i64 z1, AV.int IntKind.i64 z2, AV.str s3, AV.sl 3 es4 none, AV.sl 5 es5 none] ∧ ∃ (k6 : Nat), ∃ (n7 : Nat), k6 < 3 ∧ n7 ≤ 1000000 ∧ [AV.agg [AV.int IntKind.i64 z1, AV.int IntKind.i64 z2, AV.str s3, AV.sl 3 (stripss 0 [] es4) none, AV.sl 5 (stripss 0 [] es5) none]] = [AV.agg (encN (lf k6 n7))] ∧ gAnd (decide (0 + List.length (lt k6 n7) ≤ 9223372036854775807)) (AV.str ([] ++ lt k6 n7) = v)) :
    ToEnd cfg 14 (bodyOf Tryd.f14) (RetIs Tryd.prog Tryd.f14 v) ([.code []]) .normal ([(0, true, .agg [.int .i64 1, .int .i64 0, .str [], .sl 3 [] none, .sl 5 [[.int .i64 6, .int .i64 0, .str [], .sl 3 [[.str [116, 101, 120, 116], .str z, .int .i64 0]] none, .sl 5 [] none]] none])]) ([]) := by
  have e : unr cfg 14 (bodyOf Tryd.f14) (ctab [(14, nodeZC)]) ⟨[], [([0, 0, 1, 0, 0, 1, 0, 1, 1], 4, [.int .i64, .int .i64, .str, .sl 3, .sl 5]), ([0, 0, 1, 0, 0, 1, 0, 1, 1, 1, 1, 1, 1, 1], 5, [.str, .str, .int .i64]), ([0, 0, 1, 0, 0, 1, 0, 1, 1, 1, 1, 1, 1, 1], 13, [.str, .str, .int .i64])]⟩ (RetIs Tryd.prog Tryd.f14 v) 100000 ([.code []]) .normal ([(0, true, .agg [.int .i64 1, .int .i64 0, .str [], .sl 3 [] none, .sl 5 [[.int .i64 6, .int .i64 0, .str [], .sl 3 [[.str [116, 101, 120, 116], .str z, .int .i64 0]] none, .sl 5 [] none]] none])]) ([]) =
    (∃ (z1 : Int), ∃ (z2 : Int), ∃ (s3 : List UInt8), ∃ (es4 : List (List AV)), ∃ (es5 : List (List AV)), [AV.int IntKind.i64 6, AV.int IntKind.i64 0, AV.str [], AV.sl 3 [[AV.str [116, 101, 120, 116], AV.str z, AV.int IntKind.i64 0]] none, AV.sl 5 [] none] = [AV.int IntKind.i64 z1, AV.int IntKind.i64 z2, AV.str s3, AV.sl 3 es4 none, AV.sl 5 es5 none] ∧ ∃ (k6 : Nat), ∃ (n7 : Nat), k6 < 3 ∧ n7 ≤ 1000000 ∧ [AV.agg [AV.int IntKind.i64 z1, AV.int IntKind.i64 z2, AV.str s3, AV.sl 3 (stripss 0 [] es4) none, AV.sl 5 (stripss 0 [] es5) none]] = [AV.agg (encN (lf k6 n7))] ∧ gAnd (decide (0 + List.length (lt k6 n7) ≤ 9223372036854775807)) (AV.str ([] ++ lt k6 n7) = v)) := by kernel_rfl
  exact unr_ok hT 100000 _ _ _ _ (e.mpr H)

theorem t5_0 {v : AV} {z : List UInt8} (hT : TabOk cfg (ctab [(13, checkZC), (14, nodePC)])) (H :
    ∃ (k1 : Nat), ∃ (n2 : Nat), k1 < 3 ∧ n2 ≤ 1000000 ∧ [AV.agg [AV.int IntKind.i64 1, AV.int IntKind.i64 0, AV.str [], AV.sl 3 [] none, AV.sl 5 [[AV.int IntKind.i64 2, AV.int IntKind.i64 0, AV.str z, AV.sl 3 [] none, AV.sl 5 [] none]] none]] = [AV.agg [AV.int IntKind.i64 1, AV.int IntKind.i64 0, AV.str [], AV.sl 3 [] none, AV.sl 5 [encN (lf k1 n2)] none]] ∧ ifP (lookE k1 n2 != 0) (AV.tup [AV.str [], AV.int IntKind.i64 (lookE k1 n2)] = v) (∃ (k3 : Nat), ∃ (n4 : Nat), k3 < 3 ∧ n4 ≤ 1000000 ∧ [AV.agg [AV.int IntKind.i64 1, AV.int IntKind.i64 0, AV.str [], AV.sl 3 [] none, AV.sl 5 [[AV.int IntKind.i64 2, AV.int IntKind.i64 0, AV.str z, AV.sl 3 [] none, AV.sl 5 [] none]] none]] = [AV.agg [AV.int IntKind.i64 1, AV.int IntKind.i64 0, AV.str [], AV.sl 3 [] none, AV.sl 5 [encN (lf k3 n4)] none]] ∧ ifP (decide ((↑(List.length (lt k3 n4)) : Int) > 65536)) (AV.tup [AV.str [], AV.int IntKind.i64 3] = v) (AV.tup [AV.str (lt k3 n4), AV.int IntKind.i64 0] = v))) :
    ToEnd cfg 5 (bodyOf Tryd.f5) (RetIs Tryd.prog Tryd.f5 v) ([.code []]) .normal ([(0, true, .agg [.int .i64 1, .int .i64 0, .str [], .sl 3 [] none, .sl 5 [[.int .i64 2, .int .i64 0, .str z, .sl 3 [] none, .sl 5 [] none]] none])]) ([]) := by
  have e : unr cfg 5 (bodyOf Tryd.f5) (ctab [(13, checkZC), (14, nodePC)]) ⟨[], []⟩ (RetIs Tryd.prog Tryd.f5 v) 100000 ([.code []]) .normal ([(0, true, .agg [.int .i64 1, .int .i64 0, .str [], .sl 3 [] none, .sl 5 [[.int .i64 2, .int .i64 0, .str z, .sl 3 [] none, .sl 5 [] none]] none])]) ([]) =
    (∃ (k1 : Nat), ∃ (n2 : Nat), k1 < 3 ∧ n2 ≤ 1000000 ∧ [AV.agg [AV.int IntKind.i64 1, AV.int IntKind.i64 0, AV.str [], AV.sl 3 [] none, AV.sl 5 [[AV.int IntKind.i64 2, AV.int IntKind.i64 0, AV.str z, AV.sl 3 [] none, AV.sl 5 [] none]] none]] = [AV.agg [AV.int IntKind.i64 1, AV.int IntKind.i64 0, AV.str [], AV.sl 3 [] none, AV.sl 5 [encN (lf k1 n2)] none]] ∧ ifP (lookE k1 n2 != 0) (AV.tup [AV.str [], AV.int IntKind.i64 (lookE k1 n2)] = v) (∃ (k3 : Nat), ∃ (n4 : Nat), k3 < 3 ∧ n4 ≤ 1000000 ∧ [AV.agg [AV.int IntKind.i64 1, AV.int IntKind.i64 0, AV.str [], AV.sl 3 [] none, AV.sl 5 [[AV.int IntKind.i64 2, AV.int IntKind.i64 0, AV.str z, AV.sl 3 [] none, AV.sl 5 [] none]] none]] = [AV.agg [AV.int IntKind.i64 1, AV.int IntKind.i64 0, AV.str [], AV.sl 3 [] none, AV.sl 5 [encN (lf k3 n4)] none]] ∧ ifP (decide ((↑(List.length (lt k3 n4)) : Int) > 65536)) (AV.tup [AV.str [], AV.int IntKind.i64 3] = v) (AV.tup [AV.str (lt k3 n4), AV.int IntKind.i64 0] = v))) := by kernel_rfl
  exact unr_ok hT 100000 _ _ _ _ (e.mpr H)

theorem t5_1 {v : AV} {z : List UInt8} (hT : TabOk cfg (ctab [(13, checkZC), (14, nodePC)])) (H :
    ∃ (k1 : Nat), ∃ (n2 : Nat), k1 < 3 ∧ n2 ≤ 1000000 ∧ [AV.agg [AV.int IntKind.i64 1, AV.int IntKind.i64 0, AV.str [], AV.sl 3 [] none, AV.sl 5 [[AV.int IntKind.i64 5, AV.int IntKind.i64 0, AV.str z, AV.sl 3 [] none, AV.sl 5 [] none]] none]] = [AV.agg [AV.int IntKind.i64 1, AV.int IntKind.i64 0, AV.str [], AV.sl 3 [] none, AV.sl 5 [encN (lf k1 n2)] none]] ∧ ifP (lookE k1 n2 != 0) (AV.tup [AV.str [], AV.int IntKind.i64 (lookE k1 n2)] = v) (∃ (k3 : Nat), ∃ (n4 : Nat), k3 < 3 ∧ n4 ≤ 1000000 ∧ [AV.agg [AV.int IntKind.i64 1, AV.int IntKind.i64 0, AV.str [], AV.sl 3 [] none, AV.sl 5 [[AV.int IntKind.i64 5, AV.int IntKind.i64 0, AV.str z, AV.sl 3 [] none, AV.sl 5 [] none]] none]] = [AV.agg [AV.int IntKind.i64 1, AV.int IntKind.i64 0, AV.str [], AV.sl 3 [] none, AV.sl 5 [encN (lf k3 n4)] none]] ∧ ifP (decide ((↑(List.length (lt k3 n4)) : Int) > 65536)) (AV.tup [AV.str [], AV.int IntKind.i64 3] = v) (AV.tup [AV.str (lt k3 n4), AV.int IntKind.i64 0] = v))) :
    ToEnd cfg 5 (bodyOf Tryd.f5) (RetIs Tryd.prog Tryd.f5 v) ([.code []]) .normal ([(0, true, .agg [.int .i64 1, .int .i64 0, .str [], .sl 3 [] none, .sl 5 [[.int .i64 5, .int .i64 0, .str z, .sl 3 [] none, .sl 5 [] none]] none])]) ([]) := by
  have e : unr cfg 5 (bodyOf Tryd.f5) (ctab [(13, checkZC), (14, nodePC)]) ⟨[], []⟩ (RetIs Tryd.prog Tryd.f5 v) 100000 ([.code []]) .normal ([(0, true, .agg [.int .i64 1, .int .i64 0, .str [], .sl 3 [] none, .sl 5 [[.int .i64 5, .int .i64 0, .str z, .sl 3 [] none, .sl 5 [] none]] none])]) ([]) =
    (∃ (k1 : Nat), ∃ (n2 : Nat), k1 < 3 ∧ n2 ≤ 1000000 ∧ [AV.agg [AV.int IntKind.i64 1, AV.int IntKind.i64 0, AV.str [], AV.sl 3 [] none, AV.sl 5 [[AV.int IntKind.i64 5, AV.int IntKind.i64 0, AV.str z, AV.sl 3 [] none, AV.sl 5 [] none]] none]] = [AV.agg [AV.int IntKind.i64 1, AV.int IntKind.i64 0, AV.str [], AV.sl 3 [] none, AV.sl 5 [encN (lf k1 n2)] none]] ∧ ifP (lookE k1 n2 != 0) (AV.tup [AV.str [], AV.int IntKind.i64 (lookE k1 n2)] = v) (∃ (k3 : Nat), ∃ (n4 : Nat), k3 < 3 ∧ n4 ≤ 1000000 ∧ [AV.agg [AV.int IntKind.i64 1, AV.int IntKind.i64 0, AV.str [], AV.sl 3 [] none, AV.sl 5 [[AV.int IntKind.i64 5, AV.int IntKind.i64 0, AV.str z, AV.sl 3 [] none, AV.sl 5 [] none]] none]] = [AV.agg [AV.int IntKind.i64 1, AV.int IntKind.i64 0, AV.str [], AV.sl 3 [] none, AV.sl 5 [encN (lf k3 n4)] none]] ∧ ifP (decide ((↑(List.length (lt k3 n4)) : Int) > 65536)) (AV.tup [AV.str [], AV.int IntKind.i64 3] = v) (AV.tup [AV.str (lt k3 n4), AV.int IntKind.i64 0] = v))) := by kernel_rfl
  exact unr_ok hT 100000 _ _ _ _ (e.mpr H)

theorem t5_2 {v : AV} {z : List UInt8} (hT : TabOk cfg (ctab [(13, checkZC), (14, nodePC)])) (H :
    ∃ (k1 : Nat), ∃ (n2 : Nat), k1 < 3 ∧ n2 ≤ 1000000 ∧ [AV.agg [AV.int IntKind.i64 1, AV.int IntKind.i64 0, AV.str [], AV.sl 3 [] none, AV.sl 5 [[AV.int IntKind.i64 6, AV.int IntKind.i64 0, AV.str [], AV.sl 3 [[AV.str [116, 101, 120, 116], AV.str z, AV.int IntKind.i64 0]] none, AV.sl 5 [] none]] none]] = [AV.agg [AV.int IntKind.i64 1, AV.int IntKind.i64 0, AV.str [], AV.sl 3 [] none, AV.sl 5 [encN (lf k1 n2)] none]] ∧ ifP (lookE k1 n2 != 0) (AV.tup [AV.str [], AV.int IntKind.i64 (lookE k1 n2)] = v) (∃ (k3 : Nat), ∃ (n4 : Nat), k3 < 3 ∧ n4 ≤ 1000000 ∧ [AV.agg [AV.int IntKind.i64 1, AV.int IntKind.i64 0, AV.str [], AV.sl 3 [] none, AV.sl 5 [[AV.int IntKind.i64 6, AV.int IntKind.i64 0, AV.str [], AV.sl 3 [[AV.str [116, 101, 120, 116], AV.str z, AV.int IntKind.i64 0]] none, AV.sl 5 [] none]] none]] = [AV.agg [AV.int IntKind.i64 1, AV.int IntKind.i64 0, AV.str [], AV.sl 3 [] none, AV.sl 5 [encN (lf k3 n4)] none]] ∧ ifP (decide ((↑(List.length (lt k3 n4)) : Int) > 65536)) (AV.tup [AV.str [], AV.int IntKind.i64 3] = v) (AV.tup [AV.str (lt k3 n4), AV.int IntKind.i64 0] = v))) :
    ToEnd cfg 5 (bodyOf Tryd.f5) (RetIs Tryd.prog Tryd.f5 v) ([.code []]) .normal ([(0, true, .agg [.int .i64 1, .int .i64 0, .str [], .sl 3 [] none, .sl 5 [[.int .i64 6, .int .i64 0, .str [], .sl 3 [[.str [116, 101, 120, 116], .str z, .int .i64 0]] none, .sl 5 [] none]] none])]) ([]) := by
  have e : unr cfg 5 (bodyOf Tryd.f5) (ctab [(13, checkZC), (14, nodePC)]) ⟨[], []⟩ (RetIs Tryd.prog Tryd.f5 v) 100000 ([.code []]) .normal ([(0, true, .agg [.int .i64 1, .int .i64 0, .str [], .sl 3 [] none, .sl 5 [[.int .i64 6, .int .i64 0, .str [], .sl 3 [[.str [116, 101, 120, 116], .str z, .int .i64 0]] none, .sl 5 [] none]] none])]) ([]) =
    (∃ (k1 : Nat), ∃ (n2 : Nat), k1 < 3 ∧ n2 ≤ 1000000 ∧ [AV.agg [AV.int IntKind.i64 1, AV.int IntKind.i64 0, AV.str [], AV.sl 3 [] none, AV.sl 5 [[AV.int IntKind.i64 6, AV.int IntKind.i64 0, AV.str [], AV.sl 3 [[AV.str [116, 101, 120, 116], AV.str z, AV.int IntKind.i64 0]] none, AV.sl 5 [] none]] none]] = [AV.agg [AV.int IntKind.i64 1, AV.int IntKind.i64 0, AV.str [], AV.sl 3 [] none, AV.sl 5 [encN (lf k1 n2)] none]] ∧ ifP (lookE k1 n2 != 0) (AV.tup [AV.str [], AV.int IntKind.i64 (lookE k1 n2)] = v) (∃ (k3 : Nat), ∃ (n4 : Nat), k3 < 3 ∧ n4 ≤ 1000000 ∧ [AV.agg [AV.int IntKind.i64 1, AV.int IntKind.i64 0, AV.str [], AV.sl 3 [] none, AV.sl 5 [[AV.int IntKind.i64 6, AV.int IntKind.i64 0, AV.str [], AV.sl 3 [[AV.str [116, 101, 120, 116], AV.str z, AV.int IntKind.i64 0]] none, AV.sl 5 [] none]] none]] = [AV.agg [AV.int IntKind.i64 1, AV.int IntKind.i64 0, AV.str [], AV.sl 3 [] none, AV.sl 5 [encN (lf k3 n4)] none]] ∧ ifP (decide ((↑(List.length (lt k3 n4)) : Int) > 65536)) (AV.tup [AV.str [], AV.int IntKind.i64 3] = v) (AV.tup [AV.str (lt k3 n4), AV.int IntKind.i64 0] = v))) := by kernel_rfl
  exact unr_ok hT 100000 _ _ _ _ (e.mpr H)

end Go.Proofs.YtafflebdjmnihaaDoor
end

section
namespace Go.Proofs.YtafflebdjmnihaaDoor
open Go.Ai Go
set_option linter.unusedSimpArgs false
set_option linter.unusedVariables false
set_option maxRecDepth 100000

theorem zs_len (n : Nat) : (zs n).length = n := by simp [zs]
theorem zs_mem {n : Nat} {c : UInt8} (h : c ∈ zs n) : c = 0 := (List.mem_replicate.1 h).2
theorem cut_mem {s : List UInt8} {a b : Int} {c : UInt8} (h : c ∈ cutL s (some a) (some b)) : c ∈ s := List.mem_of_mem_take (List.mem_of_mem_drop h)
theorem cut_zs {n : Nat} {a b : Int} {c : UInt8} {r : List UInt8} (hc : c ≠ 0) (h : (cutL (zs n) (some a) (some b) == c :: r) = true) : False := by
  have h : cutL (zs n) (some a) (some b) = c :: r := by simpa using h
  exact hc (zs_mem (cut_mem (a := a) (b := b) (by rw [h]; simp)))
theorem pf45 : pureFn cfg 45 Tryd.f45 := ⟨by kernel_rfl, by kernel_rfl, by kernel_rfl, by kernel_rfl, by kernel_rfl, by kernel_rfl⟩
theorem pf44 : pureFn cfg 44 Tryd.f44 := ⟨by kernel_rfl, by kernel_rfl, by kernel_rfl, by kernel_rfl, by kernel_rfl, by kernel_rfl⟩
theorem pf23 : pureFn cfg 23 Tryd.f23 := ⟨by kernel_rfl, by kernel_rfl, by kernel_rfl, by kernel_rfl, by kernel_rfl, by kernel_rfl⟩
theorem pf43 : pureFn cfg 43 Tryd.f43 := ⟨by kernel_rfl, by kernel_rfl, by kernel_rfl, by kernel_rfl, by kernel_rfl, by kernel_rfl⟩
theorem pf42 : pureFn cfg 42 Tryd.f42 := ⟨by kernel_rfl, by kernel_rfl, by kernel_rfl, by kernel_rfl, by kernel_rfl, by kernel_rfl⟩
theorem pf41 : pureFn cfg 41 Tryd.f41 := ⟨by kernel_rfl, by kernel_rfl, by kernel_rfl, by kernel_rfl, by kernel_rfl, by kernel_rfl⟩
theorem pf34 : pureFn cfg 34 Tryd.f34 := ⟨by kernel_rfl, by kernel_rfl, by kernel_rfl, by kernel_rfl, by kernel_rfl, by kernel_rfl⟩
theorem pf22 : pureFn cfg 22 Tryd.f22 := ⟨by kernel_rfl, by kernel_rfl, by kernel_rfl, by kernel_rfl, by kernel_rfl, by kernel_rfl⟩
theorem pf32 : pureFn cfg 32 Tryd.f32 := ⟨by kernel_rfl, by kernel_rfl, by kernel_rfl, by kernel_rfl, by kernel_rfl, by kernel_rfl⟩
theorem pf33 : pureFn cfg 33 Tryd.f33 := ⟨by kernel_rfl, by kernel_rfl, by kernel_rfl, by kernel_rfl, by kernel_rfl, by kernel_rfl⟩
theorem pf21 : pureFn cfg 21 Tryd.f21 := ⟨by kernel_rfl, by kernel_rfl, by kernel_rfl, by kernel_rfl, by kernel_rfl, by kernel_rfl⟩
theorem pf13 : pureFn cfg 13 Tryd.f13 := ⟨by kernel_rfl, by kernel_rfl, by kernel_rfl, by kernel_rfl, by kernel_rfl, by kernel_rfl⟩
theorem pf14 : pureFn cfg 14 Tryd.f14 := ⟨by kernel_rfl, by kernel_rfl, by kernel_rfl, by kernel_rfl, by kernel_rfl, by kernel_rfl⟩
theorem pf5 : pureFn cfg 5 Tryd.f5 := ⟨by kernel_rfl, by kernel_rfl, by kernel_rfl, by kernel_rfl, by kernel_rfl, by kernel_rfl⟩

theorem loop45 (n : Nat) (c : UInt8) (r : List UInt8) (hn : n ≤ 1000000) (hc : c ≠ 0) (hr : r.length ≤ 100) : ∀ (d i : Nat), n + 1 - i ≤ d → i ≤ n + 1 →
    ToEnd cfg 45 (bodyOf Tryd.f45) (RetIs Tryd.prog Tryd.f45 (.bool false)) [.code [0, 1, 0, 1], .block 0, .code [1, 1]] .normal [(0, true, .str (zs n)), (1, true, .str (c :: r)), (5, true, .int .i64 (i : Nat))] [] := by
  intro d
  induction d with
  | zero =>
    intro i hd hi
    refine t45b (ctab_ok ctab_nil) (ifP_intro (fun hx => ?_) fun _ => rfl)
    exfalso
    rw [wrap_in (by omega) (by simp; omega), zs_len] at hx
    simp at hx; omega
  | succ d ih =>
    intro i hd hi
    refine t45b (ctab_ok ctab_nil) (ifP_intro (fun hx => ?_) fun _ => rfl)
    rw [wrap_in (by omega) (by simp; omega), zs_len] at hx
    simp at hx
    rw [wrap_in (by omega) (by simp; omega)]
    refine gAnd_intro ?_ (ifP_intro (fun he => (cut_zs hc he).elim) fun _ => ?_)
    · simp only [cutOb, zs_len, Bool.and_eq_true, decide_eq_true_eq, List.length_cons]; omega
    · rw [wrap_in (by omega) (by omega)]
      exact ih (i + 1) (by omega) (by omega)
theorem c45 : COk cfg 45 hasZC := by
  refine cok_pure pf45 fun vs h K ht => ?_
  obtain ⟨n, c, r, hn, hc, hr, rfl, hk⟩ := ht
  exact ⟨_, hk, t45a (ctab_ok ctab_nil) (loop45 n c r hn hc hr (n + 1) 0 (by omega) (by omega))⟩

theorem loop44 (hT : TabOk cfg (ctab [(45, hasZC)])) (n : Nat) (hn : n ≤ 1000000) : ∀ (d i : Nat), n + 1 - i ≤ d → i ≤ n + 1 →
    ToEnd cfg 44 (bodyOf Tryd.f44) (RetIs Tryd.prog Tryd.f44 (.bool false)) [.code [0, 1, 0, 1], .block 0, .code [1, 1]] .normal [(0, true, .str (zs n)), (3, true, .int .i64 (i : Nat))] [] := by
  intro d
  have fin : ∃ (n1 : Nat), ∃ (c2 : UInt8), ∃ (r3 : List UInt8), n1 ≤ 1000000 ∧ c2 ≠ 0 ∧ List.length r3 ≤ 100 ∧ [AV.str (zs n), AV.str [60, 101, 115, 105, 58]] = [AV.str (zs n1), AV.str (c2 :: r3)] ∧ ∃ (n4 : Nat), ∃ (c5 : UInt8), ∃ (r6 : List UInt8), n4 ≤ 1000000 ∧ c5 ≠ 0 ∧ List.length r6 ≤ 100 ∧ [AV.str (zs n), AV.str [60, 47, 101, 115, 105, 58]] = [AV.str (zs n4), AV.str (c5 :: r6)] ∧ AV.bool false = AV.bool false :=
    ⟨n, 60, [101, 115, 105, 58], hn, by decide, by decide, rfl, n, 60, [47, 101, 115, 105, 58], hn, by decide, by decide, rfl, rfl⟩
  induction d with
  | zero =>
    intro i hd hi
    refine t44b hT (ifP_intro (fun hx => ?_) fun _ => fin)
    exfalso
    rw [wrap_in (by omega) (by omega), zs_len] at hx
    simp at hx; omega
  | succ d ih =>
    intro i hd hi
    refine t44b hT (ifP_intro (fun hx => ?_) fun _ => fin)
    rw [wrap_in (by omega) (by omega), zs_len] at hx
    simp at hx
    rw [wrap_in (n := (i : Int) + 7) (by omega) (by omega)]
    refine gAnd_intro ?_ (ifP_intro (fun he => (cut_zs (by decide) he).elim) fun _ => ?_)
    · simp only [cutOb, zs_len, Bool.and_eq_true, decide_eq_true_eq]; omega
    · rw [wrap_in (by omega) (by omega)]
      exact ih (i + 1) (by omega) (by omega)
theorem c44 : COk cfg 44 tagZC := by
  refine cok_pure pf44 fun vs h K ht => ?_
  obtain ⟨n, hn, rfl, hk⟩ := ht
  have hT : TabOk cfg (ctab [(45, hasZC)]) := ctab_ok (ctab_cons c45 ctab_nil)
  exact ⟨_, hk, t44a hT (loop44 hT n hn (n + 1) 0 (by omega) (by omega))⟩

theorem zs_get (n i : Nat) : (zs n).getD i 0 = 0 := by
  unfold zs
  rw [List.getD_eq_getElem?_getD, List.getElem?_replicate]
  split <;> rfl
theorem loop23 (n : Nat) (hn : n ≤ 1000000) : ∀ (d i : Nat), n - i ≤ d → i ≤ n →
    ToEnd cfg 23 (bodyOf Tryd.f23) (RetIs Tryd.prog Tryd.f23 (.str ([34] ++ zs n ++ [34]))) [.code [0, 1, 0, 1], .block 0, .code [1, 1]] .normal [(0, true, .str (zs n)), (3, true, .int .i64 (i : Nat))] [] := by
  intro d
  have fin : gAnd (decide (1 + List.length (zs n) ≤ 9223372036854775807)) (gAnd (decide (List.length (34 :: List.append [] (zs n)) + 1 ≤ 9223372036854775807)) (AV.str (34 :: List.append (List.append [] (zs n)) [34]) = AV.str ([34] ++ zs n ++ [34]))) := by
    refine gAnd_intro (by rw [zs_len]; simp; omega) (gAnd_intro ?_ rfl)
    simp [zs_len]; omega
  induction d with
  | zero =>
    intro i hd hi
    refine t23b (ctab_ok ctab_nil) (ifP_intro (fun hx => ?_) fun _ => fin)
    exfalso
    rw [zs_len] at hx
    simp at hx; omega
  | succ d ih =>
    intro i hd hi
    refine t23b (ctab_ok ctab_nil) (ifP_intro (fun hx => ?_) fun _ => fin)
    rw [zs_len] at hx
    simp at hx
    refine gAnd_intro ?_ (ifP_intro (fun he => ?_) fun _ => ?_)
    · simp only [inR, zs_len, Bool.and_eq_true, decide_eq_true_eq]; omega
    · rw [Int.toNat_natCast, zs_get] at he; simp at he
    · rw [wrap_in (by omega) (by omega)]
      exact ih (i + 1) (by omega) (by omega)
theorem c23 : COk cfg 23 quoZC := by
  refine cok_pure pf23 fun vs h K ht => ?_
  obtain ⟨n, hn, rfl, hk⟩ := ht
  exact ⟨_, hk, t23a (ctab_ok ctab_nil) (loop23 n hn n 0 (by omega) (by omega))⟩
theorem c43 : COk cfg 43 valZC := by
  refine cok_pure pf43 fun vs h K ht => ?_
  obtain ⟨n, hn, rfl, hk⟩ := ht
  exact ⟨_, hk, t43 (ctab_ok (ctab_cons c45 ctab_nil)) ⟨n, 34, [], hn, by decide, by decide, rfl, rfl⟩⟩
theorem c42 : COk cfg 42 manyC := by
  refine cok_pure pf42 fun vs h K ht => ?_
  unfold manyC at ht
  split at ht
  · exact ⟨_, ht, t42a (ctab_ok ctab_nil) rfl⟩
  · obtain ⟨rfl, hk⟩ := ht
    exact ⟨_, hk, t42b (ctab_ok ctab_nil) (ifP_intro (fun _ => rfl) fun hx => by simp at hx)⟩
  · exact ht.elim
end Go.Proofs.YtafflebdjmnihaaDoor
end

section
namespace Go.Proofs.YtafflebdjmnihaaDoor
open Go.Ai Go
set_option linter.unusedSimpArgs false
set_option linter.unusedVariables false
set_option maxRecDepth 100000

theorem c41 : COk cfg 41 needsC := by
  refine cok_pure pf41 fun vs h K ht => ?_
  unfold needsC at ht
  split at ht
  · rename_i k
    cases h6 : k == 6 with
    | true =>
      rw [h6] at ht
      obtain rfl : k = 6 := by simpa using h6
      exact ⟨_, ht, t41 (ctab_ok ctab_nil) rfl⟩
    | false =>
      rw [h6, cond_false] at ht
      cases hc : (k == 1 || (k == 2 || k == 5)) with
      | false => rw [hc] at ht; exact ht.elim
      | true =>
        rw [hc] at ht
        refine ⟨_, ht, ?_⟩
        simp only [Bool.or_eq_true, beq_iff_eq] at hc
        rcases hc with rfl | rfl | rfl <;> exact t41 (ctab_ok ctab_nil) rfl
  · exact ht.elim
theorem c34 : COk cfg 34 kindC := by
  refine cok_pure pf34 fun vs h K ht => ?_
  obtain ⟨k, rfl, hk, hK⟩ := ht
  refine ⟨_, hK, ?_⟩
  rcases hk with rfl | rfl | rfl <;> exact t34 (ctab_ok ctab_nil) rfl
theorem c22 : COk cfg 22 nameC := by
  refine cok_pure pf22 fun vs h K ht => ?_
  unfold nameC at ht
  split at ht
  · rename_i k
    cases h5 : k == 5 with
    | true =>
      rw [h5] at ht
      obtain rfl : k = 5 := by simpa using h5
      exact ⟨_, ht, t22_5 (ctab_ok ctab_nil) rfl⟩
    | false =>
      rw [h5, cond_false] at ht
      cases h6 : k == 6 with
      | true =>
        rw [h6] at ht
        obtain rfl : k = 6 := by simpa using h6
        exact ⟨_, ht, t22_6 (ctab_ok ctab_nil) rfl⟩
      | false => rw [h6] at ht; exact ht.elim
  · exact ht.elim
theorem tab32 : TabOk cfg (ctab [(41, needsC), (42, manyC)]) := ctab_ok (ctab_cons c41 (ctab_cons c42 ctab_nil))
theorem tab32x : TabOk cfg (ctab [(41, needsC), (42, manyC), (43, valZC)]) := ctab_ok (ctab_cons c41 (ctab_cons c42 (ctab_cons c43 ctab_nil)))
theorem c32 : COk cfg 32 attrsZC := by
  refine cok_pure pf32 fun vs h K ht => ?_
  unfold attrsZC at ht
  split at ht
  · rename_i k sz
    cases hc : (k == 1 || (k == 2 || k == 5)) with
    | false => rw [hc] at ht; exact ht.elim
    | true =>
      rw [hc] at ht
      refine ⟨_, ht, ?_⟩
      simp only [Bool.or_eq_true, beq_iff_eq] at hc
      rcases hc with rfl | rfl | rfl
      · exact t32_1 tab32 rfl
      · exact t32_2 tab32 rfl
      · exact t32_5 tab32 rfl
  · obtain ⟨n, hn, hk, ha, hp, rfl, hK⟩ := ht
    rw [beq_iff_eq] at hk ha hp
    subst hk; subst ha; subst hp
    exact ⟨_, hK, t32x tab32x ⟨_, _, _, rfl, rfl, _, _, _, rfl, _, _, _, rfl, n, hn, rfl, _, _, _, rfl, _, _, _, rfl, rfl, rfl⟩⟩
  · exact ht.elim
theorem tab33 : TabOk cfg (ctab [(44, tagZC), (45, hasZC)]) := ctab_ok (ctab_cons c44 (ctab_cons c45 ctab_nil))
theorem c33 : COk cfg 33 textZC := by
  refine cok_pure pf33 fun vs h K ht => ?_
  unfold textZC at ht
  split at ht
  · rename_i k s
    cases h2 : k == 2 with
    | true =>
      rw [h2, cond_true] at ht
      obtain rfl : k = 2 := by simpa using h2
      obtain ⟨n, hn, rfl, hK⟩ := ht
      refine ⟨_, hK, t33_2 tab33 (ifP_intro (fun hx => ⟨n, hn, rfl, ?_⟩) fun hx => ?_)⟩ <;> rw [hx]
    | false =>
      rw [h2, cond_false] at ht
      cases h5 : k == 5 with
      | true =>
        rw [h5, cond_true] at ht
        obtain rfl : k = 5 := by simpa using h5
        obtain ⟨n, hn, rfl, hK⟩ := ht
        exact ⟨_, hK, t33_5 tab33 ⟨n, 60, [47, 101, 115, 105, 58, 114, 101, 109, 111, 118, 101], hn, by decide, by decide, rfl, n, 60, [101, 115, 105, 58], hn, by decide, by decide, rfl, rfl⟩⟩
      | false =>
        rw [h5, cond_false] at ht
        cases hc : (k == 1 || k == 6) with
        | false => rw [hc] at ht; exact ht.elim
        | true =>
          rw [hc, cond_true] at ht
          obtain ⟨hs, hK⟩ := ht
          rw [List.isEmpty_iff] at hs
          subst hs
          refine ⟨_, hK, ?_⟩
          simp only [Bool.or_eq_true, beq_iff_eq] at hc
          rcases hc with rfl | rfl
          · exact t33_1 tab33 rfl
          · exact t33_6 tab33 rfl
  · exact ht.elim
theorem tab21 : TabOk cfg (ctab [(32, attrsZC), (33, textZC)]) := ctab_ok (ctab_cons c32 (ctab_cons c33 ctab_nil))
theorem look0 (n : Nat) : lookE 0 n = bif !(!(zs n == [])) then 4 else 0 := by cases n <;> rfl
theorem k3 {k : Nat} (h : k < 3) : k = 0 ∨ k = 1 ∨ k = 2 := by omega
theorem c21 : COk cfg 21 lookZC := by
  refine cok_pure pf21 fun vs h K ht => ?_
  obtain ⟨k, n, hk, hn, rfl, hK⟩ := ht
  refine ⟨_, hK, ?_⟩
  rcases k3 hk with rfl | rfl | rfl
  · refine t21_0 tab21 ⟨n, hn, rfl, ?_⟩
    rw [look0]
    generalize (!(!(zs n == []))) = b
    cases b <;> rfl
  · exact t21_1 tab21 ⟨n, hn, rfl, rfl⟩
  · exact t21_2 tab21 ⟨n, hn, rfl, rfl, rfl, rfl, rfl, rfl⟩
theorem tab21p : TabOk cfg (ctab [(32, attrsZC), (33, textZC), (34, kindC), (21, lookZC)]) := ctab_ok (ctab_cons c32 (ctab_cons c33 (ctab_cons c34 (ctab_cons c21 ctab_nil))))
theorem ifE {e : Int} : ifP (e != 0) (AV.int .i64 e = AV.int .i64 e) (AV.int .i64 0 = AV.int .i64 e) := by
  refine ifP_intro (fun _ => rfl) fun h => ?_
  have : e = 0 := by simpa using h
  rw [this]
theorem c21p : COk cfg 21 lookPC := by
  refine cok_pure pf21 fun vs h K ht => ?_
  obtain ⟨k, n, hk, hn, rfl, hK⟩ := ht
  refine ⟨_, hK, ?_⟩
  rcases k3 hk with rfl | rfl | rfl
  · exact t21p0 tab21p ⟨rfl, _, _, _, _, _, rfl, _, rfl, .inl rfl, _, _, _, _, _, rfl, 0, n, by decide, hn, rfl, ifE⟩
  · exact t21p1 tab21p ⟨rfl, _, _, _, _, _, rfl, _, rfl, .inr (.inl rfl), _, _, _, _, _, rfl, 1, n, by decide, hn, rfl, ifE⟩
  · exact t21p2 tab21p ⟨rfl, _, _, _, _, _, rfl, _, rfl, .inr (.inr rfl), _, _, _, _, _, rfl, 2, n, by decide, hn, rfl, ifE⟩
theorem c13 : COk cfg 13 checkZC := by
  refine cok_pure pf13 fun vs h K ht => ?_
  obtain ⟨k, n, hk, hn, rfl, hK⟩ := ht
  refine ⟨_, hK, ?_⟩
  have hT : TabOk cfg (ctab [(21, lookPC)]) := ctab_ok (ctab_cons c21p ctab_nil)
  rcases k3 hk with rfl | rfl | rfl
  · exact t13_0 hT ⟨0, n, by decide, hn, rfl, rfl⟩
  · exact t13_1 hT ⟨1, n, by decide, hn, rfl, rfl⟩
  · exact t13_2 hT ⟨2, n, by decide, hn, rfl, rfl⟩
theorem tab14 : TabOk cfg (ctab [(22, nameC), (23, quoZC)]) := ctab_ok (ctab_cons c22 (ctab_cons c23 ctab_nil))
theorem small {n : Nat} {m : Nat} (h : n ≤ 1000000) (hm : m ≤ n + 1000000) : m ≤ 9223372036854775807 := by omega
theorem c14 : COk cfg 14 nodeZC := by
  refine cok_pure pf14 fun vs h K ht => ?_
  obtain ⟨k, n, hk, hn, rfl, hK⟩ := ht
  refine ⟨_, hK, ?_⟩
  rcases k3 hk with rfl | rfl | rfl
  · exact t14_0 tab14 rfl
  · refine t14_1 tab14 ?_
    refine gAnd_intro ?_ (gAnd_intro ?_ (gAnd_intro ?_ (gAnd_intro ?_ rfl))) <;>
      · refine decide_eq_true (small hn ?_)
        simp [zs_len]; try omega
  · refine t14_2 tab14 ⟨_, _, _, rfl, gAnd_intro ?_ (gAnd_intro ?_ ⟨_, _, _, rfl, n, hn, rfl, gAnd_intro ?_ (gAnd_intro ?_ ?_)⟩)⟩
    · decide
    · decide
    · refine decide_eq_true (small hn ?_)
      simp [zs_len]; try omega
    · refine decide_eq_true (small hn ?_)
      simp [zs_len]; try omega
    · unfold lt atT tx cmt
      simp
theorem c14p : COk cfg 14 nodePC := by
  refine cok_pure pf14 fun vs h K ht => ?_
  obtain ⟨k, n, hk, hn, rfl, hK⟩ := ht
  refine ⟨_, hK, ?_⟩
  have hT : TabOk cfg (ctab [(14, nodeZC)]) := ctab_ok (ctab_cons c14 ctab_nil)
  have hl : decide (0 + (lt k n).length ≤ 9223372036854775807) = true := by
    refine decide_eq_true (small hn ?_)
    rcases k3 hk with rfl | rfl | rfl <;> simp [lt, atT, zs_len, tx, cmt, rmv] <;> omega
  rcases k3 hk with rfl | rfl | rfl
  · exact t14p0 hT ⟨_, _, _, _, _, rfl, 0, n, by decide, hn, rfl, gAnd_intro hl rfl⟩
  · exact t14p1 hT ⟨_, _, _, _, _, rfl, 1, n, by decide, hn, rfl, gAnd_intro hl rfl⟩
  · exact t14p2 hT ⟨_, _, _, _, _, rfl, 2, n, by decide, hn, rfl, gAnd_intro hl rfl⟩
theorem ans_cases (k n : Nat) : (lookE k n ≠ 0 ∧ ansS k n = [] ∧ ansE k n = lookE k n) ∨ (lookE k n = 0 ∧ 65536 < (lt k n).length ∧ ansS k n = [] ∧ ansE k n = 3) ∨ (lookE k n = 0 ∧ ¬65536 < (lt k n).length ∧ ansS k n = lt k n ∧ ansE k n = 0) := by
  by_cases h : lookE k n = 0
  · by_cases h2 : 65536 < (lt k n).length
    · refine .inr (.inl ⟨h, h2, ?_, ?_⟩) <;> simp [ansS, ansE, h, h2]
    · refine .inr (.inr ⟨h, h2, ?_, ?_⟩) <;> simp [ansS, ansE, h, h2]
  · have hb : (lookE k n == 0) = false := by simpa using h
    refine .inl ⟨h, ?_, ?_⟩
    · simp only [ansS, ansE, hb, cond_false]
    · simp only [ansE, hb, cond_false]
theorem c5 : COk cfg 5 tellZC := by
  refine cok_pure pf5 fun vs h K ht => ?_
  obtain ⟨k, n, hk, hn, rfl, hK⟩ := ht
  refine ⟨_, hK, ?_⟩
  have hT : TabOk cfg (ctab [(13, checkZC), (14, nodePC)]) := ctab_ok (ctab_cons c13 (ctab_cons c14p ctab_nil))
  have fin : ∀ {v : AV}, AV.tup [.str (ansS k n), .int .i64 (ansE k n)] = v → ifP (lookE k n != 0) (AV.tup [AV.str [], AV.int .i64 (lookE k n)] = v) (ifP (decide (((lt k n).length : Int) > 65536)) (AV.tup [AV.str [], AV.int .i64 3] = v) (AV.tup [AV.str (lt k n), AV.int .i64 0] = v)) := by
    intro v hv
    rcases ans_cases k n with ⟨h1, h2, h3⟩ | ⟨h1, h0, h2, h3⟩ | ⟨h1, h0, h2, h3⟩ <;> rw [h2, h3] at hv
    · refine ifP_intro (fun _ => hv) fun h => ?_
      exact absurd (by simpa using h) h1
    · refine ifP_intro (fun h => ?_) fun _ => ifP_intro (fun _ => hv) fun h => ?_
      · simp [h1] at h
      · simp at h; omega
    · refine ifP_intro (fun h => ?_) fun _ => ifP_intro (fun h => ?_) fun _ => hv
      · simp [h1] at h
      · simp at h; omega
  rcases k3 hk with rfl | rfl | rfl
  · refine t5_0 hT ⟨0, n, by decide, hn, rfl, ?_⟩
    have := fin rfl
    revert this
    generalize (lookE 0 n != 0) = b
    cases b
    · exact fun h => ⟨0, n, by decide, hn, rfl, h⟩
    · exact fun h => h
  · refine t5_1 hT ⟨1, n, by decide, hn, rfl, ?_⟩
    have := fin rfl
    revert this
    generalize (lookE 1 n != 0) = b
    cases b
    · exact fun h => ⟨1, n, by decide, hn, rfl, h⟩
    · exact fun h => h
  · refine t5_2 hT ⟨2, n, by decide, hn, rfl, ?_⟩
    have := fin rfl
    revert this
    generalize (lookE 2 n != 0) = b
    cases b
    · exact fun h => ⟨2, n, by decide, hn, rfl, h⟩
    · exact fun h => h
end Go.Proofs.YtafflebdjmnihaaDoor
end
