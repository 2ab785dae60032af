/-
  Runs of functions of lists of texts, printed by a home tool; each is the kernel's word.
  Lists of texts: pieces between marks: the functions keep to their contracts.
-/
import Derived.Test.YtnncfdlpogjlkaaDoorQCfg
import Derived.Test.YtnncfdlpogjlkaaDoorQJMa
import Derived.Test.YtnncfdlpogjlkaaDoorQJMb
section
namespace Go.Proofs.YtnncfdlpogjlkaaDoor
open Go.Ai Go
set_option maxRecDepth 100000
set_option linter.unusedVariables false
theorem t100 {K : AV → Hp → Prop} {s : List UInt8} {g n : Nat} {f x : Int} {es : List (List AV)} (hT : TabOk cfg (ctab [(68, trimC)])) (H :
    gAnd (cutOb (List.length s) (some f) (some x)) (∃ (s1 : List UInt8), List.length s1 ≤ 10000000 ∧ [AV.str (cutL s (some f) (some x))] = [AV.str s1] ∧ ifP (!trB s1 == []) (gAnd (tagOk [Blk.mem 9 [AV.str s], Blk.grow g 1 9, Blk.grow n 1 9, Blk.mem 39 [AV.sl 1 es (some 2)], Blk.mem 3 [AV.int IntKind.i64 f], Blk.grow 1 1 9] (List.length es) 1 9 (some 2) && true && true && true && decide ((List.length es + 1) * 16 ≤ 140737488355328) && true && true) (K (AV.tup []) [Blk.mem 9 [AV.str s], Blk.grow g 1 9, Blk.grow (List.length es + 1) 1 9, Blk.mem 39 [AV.sl 1 (stripss 5 [Blk.mem 9 [AV.str s], Blk.grow g 1 9, Blk.grow (List.length es + 1) 1 9, Blk.mem 39 [AV.sl 1 (es ++ [[AV.str (trB s1)]]) (some 2)], Blk.mem 3 [AV.int IntKind.i64 (IntKind.wrap IntKind.i64 (x + 1))], Blk.grow 1 1 9] (es ++ [[AV.str (trB s1)]])) (some 2)], Blk.mem 3 [AV.int IntKind.i64 (IntKind.wrap IntKind.i64 (x + 1))]])) (K (AV.tup []) [Blk.mem 9 [AV.str s], Blk.grow g 1 9, Blk.grow n 1 9, Blk.mem 39 [AV.sl 1 (stripss 5 [Blk.mem 9 [AV.str s], Blk.grow g 1 9, Blk.grow n 1 9, Blk.mem 39 [AV.sl 1 es (some 2)], Blk.mem 3 [AV.int IntKind.i64 (IntKind.wrap IntKind.i64 (x + 1))]] es) (some 2)], Blk.mem 3 [AV.int IntKind.i64 (IntKind.wrap IntKind.i64 (x + 1))]]))) :
    ToEnd cfg 100 (bodyOf Tryd.f100) (RetIn Tryd.prog Tryd.f100 5 K) ([.code []]) .normal ([(0, true, .int .i64 x), (1, true, .ptr 0 0), (2, true, .ptr 4 0), (3, true, .ptr 3 0)]) ([.mem 9 [.str s], .grow g 1 9, .grow n 1 9, .mem 39 [.sl 1 es (some 2)], .mem 3 [.int .i64 f]]) := by
  have e : unr cfg 100 (bodyOf Tryd.f100) (ctab [(68, trimC)]) ⟨[], []⟩ (RetIn Tryd.prog Tryd.f100 5 K) 100000 ([.code []]) .normal ([(0, true, .int .i64 x), (1, true, .ptr 0 0), (2, true, .ptr 4 0), (3, true, .ptr 3 0)]) ([.mem 9 [.str s], .grow g 1 9, .grow n 1 9, .mem 39 [.sl 1 es (some 2)], .mem 3 [.int .i64 f]]) =
    (gAnd (cutOb (List.length s) (some f) (some x)) (∃ (s1 : List UInt8), List.length s1 ≤ 10000000 ∧ [AV.str (cutL s (some f) (some x))] = [AV.str s1] ∧ ifP (!trB s1 == []) (gAnd (tagOk [Blk.mem 9 [AV.str s], Blk.grow g 1 9, Blk.grow n 1 9, Blk.mem 39 [AV.sl 1 es (some 2)], Blk.mem 3 [AV.int IntKind.i64 f], Blk.grow 1 1 9] (List.length es) 1 9 (some 2) && true && true && true && decide ((List.length es + 1) * 16 ≤ 140737488355328) && true && true) (K (AV.tup []) [Blk.mem 9 [AV.str s], Blk.grow g 1 9, Blk.grow (List.length es + 1) 1 9, Blk.mem 39 [AV.sl 1 (stripss 5 [Blk.mem 9 [AV.str s], Blk.grow g 1 9, Blk.grow (List.length es + 1) 1 9, Blk.mem 39 [AV.sl 1 (es ++ [[AV.str (trB s1)]]) (some 2)], Blk.mem 3 [AV.int IntKind.i64 (IntKind.wrap IntKind.i64 (x + 1))], Blk.grow 1 1 9] (es ++ [[AV.str (trB s1)]])) (some 2)], Blk.mem 3 [AV.int IntKind.i64 (IntKind.wrap IntKind.i64 (x + 1))]])) (K (AV.tup []) [Blk.mem 9 [AV.str s], Blk.grow g 1 9, Blk.grow n 1 9, Blk.mem 39 [AV.sl 1 (stripss 5 [Blk.mem 9 [AV.str s], Blk.grow g 1 9, Blk.grow n 1 9, Blk.mem 39 [AV.sl 1 es (some 2)], Blk.mem 3 [AV.int IntKind.i64 (IntKind.wrap IntKind.i64 (x + 1))]] es) (some 2)], Blk.mem 3 [AV.int IntKind.i64 (IntKind.wrap IntKind.i64 (x + 1))]]))) := by kernel_rfl
  exact unr_ok hT 100000 _ _ _ _ (e.mpr H)

theorem t75a {v : AV} {s : List UInt8} {sep : Int} (hT : TabOk cfg (ctab [(100, takeC)])) (H :
    ifP (sep == 34) (AV.tup [AV.sl 1 [] none, AV.int IntKind.i64 2] = v) (ifP (sep == 92) (AV.tup [AV.sl 1 [] none, AV.int IntKind.i64 2] = v) (ToEnd cfg 75 (bodyOf Tryd.f75) (RetIs Tryd.prog Tryd.f75 v) [Fm.code [0, 1, 0, 1, 1, 1, 1, 1], Fm.block 0, Fm.code [1, 1, 1, 1, 1, 1]] XT.normal [(1, true, AV.int IntKind.u8 sep), (2, true, AV.ptr 0 0), (6, true, AV.ptr 3 0), (8, true, AV.bool false), (9, true, AV.bool false), (10, true, AV.fn (Fn.func 100) [] [AV.ptr 0 0, AV.ptr 4 0, AV.ptr 3 0]), (21, true, AV.int IntKind.i64 (↑(List.length s) : Int)), (22, true, AV.int IntKind.i64 0)] [Blk.mem 9 [AV.str s], Blk.grow 0 1 9, Blk.grow 0 1 9, Blk.mem 39 [AV.sl 1 [] (some 2)], Blk.mem 3 [AV.int IntKind.i64 0]]))) :
    ToEnd cfg 75 (bodyOf Tryd.f75) (RetIs Tryd.prog Tryd.f75 v) ([.code []]) .normal ([(0, true, .str s), (1, true, .int .u8 sep)]) ([]) := by
  have e : unr cfg 75 (bodyOf Tryd.f75) (ctab [(100, takeC)]) ⟨[[0, 1, 0, 1, 1, 1, 1, 1]], []⟩ (RetIs Tryd.prog Tryd.f75 v) 100000 ([.code []]) .normal ([(0, true, .str s), (1, true, .int .u8 sep)]) ([]) =
    (ifP (sep == 34) (AV.tup [AV.sl 1 [] none, AV.int IntKind.i64 2] = v) (ifP (sep == 92) (AV.tup [AV.sl 1 [] none, AV.int IntKind.i64 2] = v) (ToEnd cfg 75 (bodyOf Tryd.f75) (RetIs Tryd.prog Tryd.f75 v) [Fm.code [0, 1, 0, 1, 1, 1, 1, 1], Fm.block 0, Fm.code [1, 1, 1, 1, 1, 1]] XT.normal [(1, true, AV.int IntKind.u8 sep), (2, true, AV.ptr 0 0), (6, true, AV.ptr 3 0), (8, true, AV.bool false), (9, true, AV.bool false), (10, true, AV.fn (Fn.func 100) [] [AV.ptr 0 0, AV.ptr 4 0, AV.ptr 3 0]), (21, true, AV.int IntKind.i64 (↑(List.length s) : Int)), (22, true, AV.int IntKind.i64 0)] [Blk.mem 9 [AV.str s], Blk.grow 0 1 9, Blk.grow 0 1 9, Blk.mem 39 [AV.sl 1 [] (some 2)], Blk.mem 3 [AV.int IntKind.i64 0]]))) := by kernel_rfl
  exact unr_ok hT 100000 _ _ _ _ (e.mpr H)

theorem t75b {v : AV} {s : List UInt8} {sep : Int} {op be : Bool} {g n : Nat} {f m i : Int} {es : List (List AV)} (hT : TabOk cfg (ctab [(100, takeC)])) (H :
    ifP (decide (i < m))
  (gAnd (inR i (List.length s))
    (ifP be (ToEnd cfg 75 (bodyOf Tryd.f75) (RetIs Tryd.prog Tryd.f75 v) [Fm.code [0, 1, 0, 1, 1, 1, 1, 1], Fm.block 0, Fm.code [1, 1, 1, 1, 1, 1]] XT.normal [(1, true, AV.int IntKind.u8 sep), (2, true, AV.ptr 0 0), (6, true, AV.ptr 3 0), (8, true, AV.bool op), (9, true, AV.bool false), (10, true, AV.fn (Fn.func 100) [] [AV.ptr 0 0, AV.ptr 4 0, AV.ptr 3 0]), (21, true, AV.int IntKind.i64 m), (22, true, AV.int IntKind.i64 (IntKind.wrap IntKind.i64 (i + 1)))] [Blk.mem 9 [AV.str s], Blk.grow g 1 9, Blk.grow n 1 9, Blk.mem 39 [AV.sl 1 es (some 2)], Blk.mem 3 [AV.int IntKind.i64 f]])
      (ifP op (ifP ((↑(UInt8.toNat (List.getD s (Int.toNat i) 0)) : Int) == 92) (ToEnd cfg 75 (bodyOf Tryd.f75) (RetIs Tryd.prog Tryd.f75 v) [Fm.code [0, 1, 0, 1, 1, 1, 1, 1], Fm.block 0, Fm.code [1, 1, 1, 1, 1, 1]] XT.normal [(1, true, AV.int IntKind.u8 sep), (2, true, AV.ptr 0 0), (6, true, AV.ptr 3 0), (8, true, AV.bool op), (9, true, AV.bool true), (10, true, AV.fn (Fn.func 100) [] [AV.ptr 0 0, AV.ptr 4 0, AV.ptr 3 0]), (21, true, AV.int IntKind.i64 m), (22, true, AV.int IntKind.i64 (IntKind.wrap IntKind.i64 (i + 1)))] [Blk.mem 9 [AV.str s], Blk.grow g 1 9, Blk.grow n 1 9, Blk.mem 39 [AV.sl 1 es (some 2)], Blk.mem 3 [AV.int IntKind.i64 f]]) (ifP ((↑(UInt8.toNat (List.getD s (Int.toNat i) 0)) : Int) == 34) (ToEnd cfg 75 (bodyOf Tryd.f75) (RetIs Tryd.prog Tryd.f75 v) [Fm.code [0, 1, 0, 1, 1, 1, 1, 1], Fm.block 0, Fm.code [1, 1, 1, 1, 1, 1]] XT.normal [(1, true, AV.int IntKind.u8 sep), (2, true, AV.ptr 0 0), (6, true, AV.ptr 3 0), (8, true, AV.bool !op), (9, true, AV.bool be), (10, true, AV.fn (Fn.func 100) [] [AV.ptr 0 0, AV.ptr 4 0, AV.ptr 3 0]), (21, true, AV.int IntKind.i64 m), (22, true, AV.int IntKind.i64 (IntKind.wrap IntKind.i64 (i + 1)))] [Blk.mem 9 [AV.str s], Blk.grow g 1 9, Blk.grow n 1 9, Blk.mem 39 [AV.sl 1 es (some 2)], Blk.mem 3 [AV.int IntKind.i64 f]]) (ifP ((↑(UInt8.toNat (List.getD s (Int.toNat i) 0)) : Int) == sep) (ifP (!op) (∃ (acc1 : List (List UInt8)), ∃ (a2 : Nat), ∃ (b3 : Nat), (1 = 1 ∧ 9 = 9 ∧ 1 = 1 ∧ 9 = 9 ∧ 1 = 1 ∧ 2 = 2 ∧ IntKind.i64 = IntKind.i64 ∧ 9 = 9 ∧ 39 = 39 ∧ 3 = 3) ∧ es = encS acc1 ∧ n = List.length acc1 ∧ f = (↑a2 : Int) ∧ a2 ≤ b3 ∧ b3 ≤ List.length s ∧ List.length s ≤ 10000000 ∧ List.length acc1 ≤ b3 ∧ [AV.int IntKind.i64 i, AV.ptr 0 0, AV.ptr 4 0, AV.ptr 3 0] = [AV.int IntKind.i64 (↑b3 : Int), AV.ptr 0 0, AV.ptr 4 0, AV.ptr 3 0] ∧ ToEnd cfg 75 (bodyOf Tryd.f75) (RetIs Tryd.prog Tryd.f75 v) [Fm.code [0, 1, 0, 1, 1, 1, 1, 1], Fm.block 0, Fm.code [1, 1, 1, 1, 1, 1]] XT.normal [(1, true, AV.int IntKind.u8 sep), (2, true, AV.ptr 0 0), (6, true, AV.ptr 3 0), (8, true, AV.bool op), (9, true, AV.bool be), (10, true, AV.fn (Fn.func 100) [] [AV.ptr 0 0, AV.ptr 4 0, AV.ptr 3 0]), (21, true, AV.int IntKind.i64 m), (22, true, AV.int IntKind.i64 (IntKind.wrap IntKind.i64 (i + 1)))] [Blk.mem 9 [AV.str s], Blk.grow g 1 9, Blk.grow (List.length (acc1 ++ keepP (List.drop a2 (List.take b3 s)))) 1 9, Blk.mem 39 [AV.sl 1 (encS (acc1 ++ keepP (List.drop a2 (List.take b3 s)))) (some 2)], Blk.mem 3 [AV.int IntKind.i64 (↑(b3 + 1) : Int)]]) (ToEnd cfg 75 (bodyOf Tryd.f75) (RetIs Tryd.prog Tryd.f75 v) [Fm.code [0, 1, 0, 1, 1, 1, 1, 1], Fm.block 0, Fm.code [1, 1, 1, 1, 1, 1]] XT.normal [(1, true, AV.int IntKind.u8 sep), (2, true, AV.ptr 0 0), (6, true, AV.ptr 3 0), (8, true, AV.bool op), (9, true, AV.bool be), (10, true, AV.fn (Fn.func 100) [] [AV.ptr 0 0, AV.ptr 4 0, AV.ptr 3 0]), (21, true, AV.int IntKind.i64 m), (22, true, AV.int IntKind.i64 (IntKind.wrap IntKind.i64 (i + 1)))] [Blk.mem 9 [AV.str s], Blk.grow g 1 9, Blk.grow n 1 9, Blk.mem 39 [AV.sl 1 es (some 2)], Blk.mem 3 [AV.int IntKind.i64 f]])) (ToEnd cfg 75 (bodyOf Tryd.f75) (RetIs Tryd.prog Tryd.f75 v) [Fm.code [0, 1, 0, 1, 1, 1, 1, 1], Fm.block 0, Fm.code [1, 1, 1, 1, 1, 1]] XT.normal [(1, true, AV.int IntKind.u8 sep), (2, true, AV.ptr 0 0), (6, true, AV.ptr 3 0), (8, true, AV.bool op), (9, true, AV.bool be), (10, true, AV.fn (Fn.func 100) [] [AV.ptr 0 0, AV.ptr 4 0, AV.ptr 3 0]), (21, true, AV.int IntKind.i64 m), (22, true, AV.int IntKind.i64 (IntKind.wrap IntKind.i64 (i + 1)))] [Blk.mem 9 [AV.str s], Blk.grow g 1 9, Blk.grow n 1 9, Blk.mem 39 [AV.sl 1 es (some 2)], Blk.mem 3 [AV.int IntKind.i64 f]]))))
        (ifP ((↑(UInt8.toNat (List.getD s (Int.toNat i) 0)) : Int) == 34) (ToEnd cfg 75 (bodyOf Tryd.f75) (RetIs Tryd.prog Tryd.f75 v) [Fm.code [0, 1, 0, 1, 1, 1, 1, 1], Fm.block 0, Fm.code [1, 1, 1, 1, 1, 1]] XT.normal [(1, true, AV.int IntKind.u8 sep), (2, true, AV.ptr 0 0), (6, true, AV.ptr 3 0), (8, true, AV.bool !op), (9, true, AV.bool be), (10, true, AV.fn (Fn.func 100) [] [AV.ptr 0 0, AV.ptr 4 0, AV.ptr 3 0]), (21, true, AV.int IntKind.i64 m), (22, true, AV.int IntKind.i64 (IntKind.wrap IntKind.i64 (i + 1)))] [Blk.mem 9 [AV.str s], Blk.grow g 1 9, Blk.grow n 1 9, Blk.mem 39 [AV.sl 1 es (some 2)], Blk.mem 3 [AV.int IntKind.i64 f]]) (ifP ((↑(UInt8.toNat (List.getD s (Int.toNat i) 0)) : Int) == sep) (ifP (!op) (∃ (acc4 : List (List UInt8)), ∃ (a5 : Nat), ∃ (b6 : Nat), (1 = 1 ∧ 9 = 9 ∧ 1 = 1 ∧ 9 = 9 ∧ 1 = 1 ∧ 2 = 2 ∧ IntKind.i64 = IntKind.i64 ∧ 9 = 9 ∧ 39 = 39 ∧ 3 = 3) ∧ es = encS acc4 ∧ n = List.length acc4 ∧ f = (↑a5 : Int) ∧ a5 ≤ b6 ∧ b6 ≤ List.length s ∧ List.length s ≤ 10000000 ∧ List.length acc4 ≤ b6 ∧ [AV.int IntKind.i64 i, AV.ptr 0 0, AV.ptr 4 0, AV.ptr 3 0] = [AV.int IntKind.i64 (↑b6 : Int), AV.ptr 0 0, AV.ptr 4 0, AV.ptr 3 0] ∧ ToEnd cfg 75 (bodyOf Tryd.f75) (RetIs Tryd.prog Tryd.f75 v) [Fm.code [0, 1, 0, 1, 1, 1, 1, 1], Fm.block 0, Fm.code [1, 1, 1, 1, 1, 1]] XT.normal [(1, true, AV.int IntKind.u8 sep), (2, true, AV.ptr 0 0), (6, true, AV.ptr 3 0), (8, true, AV.bool op), (9, true, AV.bool be), (10, true, AV.fn (Fn.func 100) [] [AV.ptr 0 0, AV.ptr 4 0, AV.ptr 3 0]), (21, true, AV.int IntKind.i64 m), (22, true, AV.int IntKind.i64 (IntKind.wrap IntKind.i64 (i + 1)))] [Blk.mem 9 [AV.str s], Blk.grow g 1 9, Blk.grow (List.length (acc4 ++ keepP (List.drop a5 (List.take b6 s)))) 1 9, Blk.mem 39 [AV.sl 1 (encS (acc4 ++ keepP (List.drop a5 (List.take b6 s)))) (some 2)], Blk.mem 3 [AV.int IntKind.i64 (↑(b6 + 1) : Int)]]) (ToEnd cfg 75 (bodyOf Tryd.f75) (RetIs Tryd.prog Tryd.f75 v) [Fm.code [0, 1, 0, 1, 1, 1, 1, 1], Fm.block 0, Fm.code [1, 1, 1, 1, 1, 1]] XT.normal [(1, true, AV.int IntKind.u8 sep), (2, true, AV.ptr 0 0), (6, true, AV.ptr 3 0), (8, true, AV.bool op), (9, true, AV.bool be), (10, true, AV.fn (Fn.func 100) [] [AV.ptr 0 0, AV.ptr 4 0, AV.ptr 3 0]), (21, true, AV.int IntKind.i64 m), (22, true, AV.int IntKind.i64 (IntKind.wrap IntKind.i64 (i + 1)))] [Blk.mem 9 [AV.str s], Blk.grow g 1 9, Blk.grow n 1 9, Blk.mem 39 [AV.sl 1 es (some 2)], Blk.mem 3 [AV.int IntKind.i64 f]])) (ToEnd cfg 75 (bodyOf Tryd.f75) (RetIs Tryd.prog Tryd.f75 v) [Fm.code [0, 1, 0, 1, 1, 1, 1, 1], Fm.block 0, Fm.code [1, 1, 1, 1, 1, 1]] XT.normal [(1, true, AV.int IntKind.u8 sep), (2, true, AV.ptr 0 0), (6, true, AV.ptr 3 0), (8, true, AV.bool op), (9, true, AV.bool be), (10, true, AV.fn (Fn.func 100) [] [AV.ptr 0 0, AV.ptr 4 0, AV.ptr 3 0]), (21, true, AV.int IntKind.i64 m), (22, true, AV.int IntKind.i64 (IntKind.wrap IntKind.i64 (i + 1)))] [Blk.mem 9 [AV.str s], Blk.grow g 1 9, Blk.grow n 1 9, Blk.mem 39 [AV.sl 1 es (some 2)], Blk.mem 3 [AV.int IntKind.i64 f]]))))))
  (ifP op (AV.tup [AV.sl 1 [] none, AV.int IntKind.i64 4] = v) (∃ (acc7 : List (List UInt8)), ∃ (a8 : Nat), ∃ (b9 : Nat), (1 = 1 ∧ 9 = 9 ∧ 1 = 1 ∧ 9 = 9 ∧ 1 = 1 ∧ 2 = 2 ∧ IntKind.i64 = IntKind.i64 ∧ 9 = 9 ∧ 39 = 39 ∧ 3 = 3) ∧ es = encS acc7 ∧ n = List.length acc7 ∧ f = (↑a8 : Int) ∧ a8 ≤ b9 ∧ b9 ≤ List.length s ∧ List.length s ≤ 10000000 ∧ List.length acc7 ≤ b9 ∧ [AV.int IntKind.i64 (↑(List.length s) : Int), AV.ptr 0 0, AV.ptr 4 0, AV.ptr 3 0] = [AV.int IntKind.i64 (↑b9 : Int), AV.ptr 0 0, AV.ptr 4 0, AV.ptr 3 0] ∧ ifP (decide ((↑(List.length (encS (acc7 ++ keepP (List.drop a8 (List.take b9 s))))) : Int) > 64)) (AV.tup [AV.sl 1 [] none, AV.int IntKind.i64 3] = v) (AV.tup [AV.sl 1 (stripss 0 [Blk.mem 9 [AV.str s], Blk.grow g 1 9, Blk.grow (List.length (acc7 ++ keepP (List.drop a8 (List.take b9 s)))) 1 9, Blk.mem 39 [AV.sl 1 (encS (acc7 ++ keepP (List.drop a8 (List.take b9 s)))) (some 2)], Blk.mem 3 [AV.int IntKind.i64 (↑(b9 + 1) : Int)]] (encS (acc7 ++ keepP (List.drop a8 (List.take b9 s))))) none, AV.int IntKind.i64 0] = v)))) :
    ToEnd cfg 75 (bodyOf Tryd.f75) (RetIs Tryd.prog Tryd.f75 v) ([.code [0, 1, 0, 1, 1, 1, 1, 1], .block 0, .code [1, 1, 1, 1, 1, 1]]) .normal ([(1, true, .int .u8 sep), (2, true, .ptr 0 0), (6, true, .ptr 3 0), (8, true, .bool op), (9, true, .bool be), (10, true, .fn (.func 100) [] [.ptr 0 0, .ptr 4 0, .ptr 3 0]), (21, true, .int .i64 m), (22, true, .int .i64 i)]) ([.mem 9 [.str s], .grow g 1 9, .grow n 1 9, .mem 39 [.sl 1 es (some 2)], .mem 3 [.int .i64 f]]) := by
  have e : unr cfg 75 (bodyOf Tryd.f75) (ctab [(100, takeC)]) ⟨[[0, 1, 0, 1, 1, 1, 1, 1]], []⟩ (RetIs Tryd.prog Tryd.f75 v) 100000 ([.code [0, 0, 1, 0, 1, 1, 1, 1, 1], .loop [0, 1, 0, 1, 1, 1, 1, 1] 5, .block 0, .code [1, 1, 1, 1, 1, 1]]) .normal ([(1, true, .int .u8 sep), (2, true, .ptr 0 0), (6, true, .ptr 3 0), (8, true, .bool op), (9, true, .bool be), (10, true, .fn (.func 100) [] [.ptr 0 0, .ptr 4 0, .ptr 3 0]), (21, true, .int .i64 m), (22, true, .int .i64 i)]) ([.mem 9 [.str s], .grow g 1 9, .grow n 1 9, .mem 39 [.sl 1 es (some 2)], .mem 3 [.int .i64 f]]) =
    (ifP (decide (i < m))
  (gAnd (inR i (List.length s))
    (ifP be (ToEnd cfg 75 (bodyOf Tryd.f75) (RetIs Tryd.prog Tryd.f75 v) [Fm.code [0, 1, 0, 1, 1, 1, 1, 1], Fm.block 0, Fm.code [1, 1, 1, 1, 1, 1]] XT.normal [(1, true, AV.int IntKind.u8 sep), (2, true, AV.ptr 0 0), (6, true, AV.ptr 3 0), (8, true, AV.bool op), (9, true, AV.bool false), (10, true, AV.fn (Fn.func 100) [] [AV.ptr 0 0, AV.ptr 4 0, AV.ptr 3 0]), (21, true, AV.int IntKind.i64 m), (22, true, AV.int IntKind.i64 (IntKind.wrap IntKind.i64 (i + 1)))] [Blk.mem 9 [AV.str s], Blk.grow g 1 9, Blk.grow n 1 9, Blk.mem 39 [AV.sl 1 es (some 2)], Blk.mem 3 [AV.int IntKind.i64 f]])
      (ifP op (ifP ((↑(UInt8.toNat (List.getD s (Int.toNat i) 0)) : Int) == 92) (ToEnd cfg 75 (bodyOf Tryd.f75) (RetIs Tryd.prog Tryd.f75 v) [Fm.code [0, 1, 0, 1, 1, 1, 1, 1], Fm.block 0, Fm.code [1, 1, 1, 1, 1, 1]] XT.normal [(1, true, AV.int IntKind.u8 sep), (2, true, AV.ptr 0 0), (6, true, AV.ptr 3 0), (8, true, AV.bool op), (9, true, AV.bool true), (10, true, AV.fn (Fn.func 100) [] [AV.ptr 0 0, AV.ptr 4 0, AV.ptr 3 0]), (21, true, AV.int IntKind.i64 m), (22, true, AV.int IntKind.i64 (IntKind.wrap IntKind.i64 (i + 1)))] [Blk.mem 9 [AV.str s], Blk.grow g 1 9, Blk.grow n 1 9, Blk.mem 39 [AV.sl 1 es (some 2)], Blk.mem 3 [AV.int IntKind.i64 f]]) (ifP ((↑(UInt8.toNat (List.getD s (Int.toNat i) 0)) : Int) == 34) (ToEnd cfg 75 (bodyOf Tryd.f75) (RetIs Tryd.prog Tryd.f75 v) [Fm.code [0, 1, 0, 1, 1, 1, 1, 1], Fm.block 0, Fm.code [1, 1, 1, 1, 1, 1]] XT.normal [(1, true, AV.int IntKind.u8 sep), (2, true, AV.ptr 0 0), (6, true, AV.ptr 3 0), (8, true, AV.bool !op), (9, true, AV.bool be), (10, true, AV.fn (Fn.func 100) [] [AV.ptr 0 0, AV.ptr 4 0, AV.ptr 3 0]), (21, true, AV.int IntKind.i64 m), (22, true, AV.int IntKind.i64 (IntKind.wrap IntKind.i64 (i + 1)))] [Blk.mem 9 [AV.str s], Blk.grow g 1 9, Blk.grow n 1 9, Blk.mem 39 [AV.sl 1 es (some 2)], Blk.mem 3 [AV.int IntKind.i64 f]]) (ifP ((↑(UInt8.toNat (List.getD s (Int.toNat i) 0)) : Int) == sep) (ifP (!op) (∃ (acc1 : List (List UInt8)), ∃ (a2 : Nat), ∃ (b3 : Nat), (1 = 1 ∧ 9 = 9 ∧ 1 = 1 ∧ 9 = 9 ∧ 1 = 1 ∧ 2 = 2 ∧ IntKind.i64 = IntKind.i64 ∧ 9 = 9 ∧ 39 = 39 ∧ 3 = 3) ∧ es = encS acc1 ∧ n = List.length acc1 ∧ f = (↑a2 : Int) ∧ a2 ≤ b3 ∧ b3 ≤ List.length s ∧ List.length s ≤ 10000000 ∧ List.length acc1 ≤ b3 ∧ [AV.int IntKind.i64 i, AV.ptr 0 0, AV.ptr 4 0, AV.ptr 3 0] = [AV.int IntKind.i64 (↑b3 : Int), AV.ptr 0 0, AV.ptr 4 0, AV.ptr 3 0] ∧ ToEnd cfg 75 (bodyOf Tryd.f75) (RetIs Tryd.prog Tryd.f75 v) [Fm.code [0, 1, 0, 1, 1, 1, 1, 1], Fm.block 0, Fm.code [1, 1, 1, 1, 1, 1]] XT.normal [(1, true, AV.int IntKind.u8 sep), (2, true, AV.ptr 0 0), (6, true, AV.ptr 3 0), (8, true, AV.bool op), (9, true, AV.bool be), (10, true, AV.fn (Fn.func 100) [] [AV.ptr 0 0, AV.ptr 4 0, AV.ptr 3 0]), (21, true, AV.int IntKind.i64 m), (22, true, AV.int IntKind.i64 (IntKind.wrap IntKind.i64 (i + 1)))] [Blk.mem 9 [AV.str s], Blk.grow g 1 9, Blk.grow (List.length (acc1 ++ keepP (List.drop a2 (List.take b3 s)))) 1 9, Blk.mem 39 [AV.sl 1 (encS (acc1 ++ keepP (List.drop a2 (List.take b3 s)))) (some 2)], Blk.mem 3 [AV.int IntKind.i64 (↑(b3 + 1) : Int)]]) (ToEnd cfg 75 (bodyOf Tryd.f75) (RetIs Tryd.prog Tryd.f75 v) [Fm.code [0, 1, 0, 1, 1, 1, 1, 1], Fm.block 0, Fm.code [1, 1, 1, 1, 1, 1]] XT.normal [(1, true, AV.int IntKind.u8 sep), (2, true, AV.ptr 0 0), (6, true, AV.ptr 3 0), (8, true, AV.bool op), (9, true, AV.bool be), (10, true, AV.fn (Fn.func 100) [] [AV.ptr 0 0, AV.ptr 4 0, AV.ptr 3 0]), (21, true, AV.int IntKind.i64 m), (22, true, AV.int IntKind.i64 (IntKind.wrap IntKind.i64 (i + 1)))] [Blk.mem 9 [AV.str s], Blk.grow g 1 9, Blk.grow n 1 9, Blk.mem 39 [AV.sl 1 es (some 2)], Blk.mem 3 [AV.int IntKind.i64 f]])) (ToEnd cfg 75 (bodyOf Tryd.f75) (RetIs Tryd.prog Tryd.f75 v) [Fm.code [0, 1, 0, 1, 1, 1, 1, 1], Fm.block 0, Fm.code [1, 1, 1, 1, 1, 1]] XT.normal [(1, true, AV.int IntKind.u8 sep), (2, true, AV.ptr 0 0), (6, true, AV.ptr 3 0), (8, true, AV.bool op), (9, true, AV.bool be), (10, true, AV.fn (Fn.func 100) [] [AV.ptr 0 0, AV.ptr 4 0, AV.ptr 3 0]), (21, true, AV.int IntKind.i64 m), (22, true, AV.int IntKind.i64 (IntKind.wrap IntKind.i64 (i + 1)))] [Blk.mem 9 [AV.str s], Blk.grow g 1 9, Blk.grow n 1 9, Blk.mem 39 [AV.sl 1 es (some 2)], Blk.mem 3 [AV.int IntKind.i64 f]]))))
        (ifP ((↑(UInt8.toNat (List.getD s (Int.toNat i) 0)) : Int) == 34) (ToEnd cfg 75 (bodyOf Tryd.f75) (RetIs Tryd.prog Tryd.f75 v) [Fm.code [0, 1, 0, 1, 1, 1, 1, 1], Fm.block 0, Fm.code [1, 1, 1, 1, 1, 1]] XT.normal [(1, true, AV.int IntKind.u8 sep), (2, true, AV.ptr 0 0), (6, true, AV.ptr 3 0), (8, true, AV.bool !op), (9, true, AV.bool be), (10, true, AV.fn (Fn.func 100) [] [AV.ptr 0 0, AV.ptr 4 0, AV.ptr 3 0]), (21, true, AV.int IntKind.i64 m), (22, true, AV.int IntKind.i64 (IntKind.wrap IntKind.i64 (i + 1)))] [Blk.mem 9 [AV.str s], Blk.grow g 1 9, Blk.grow n 1 9, Blk.mem 39 [AV.sl 1 es (some 2)], Blk.mem 3 [AV.int IntKind.i64 f]]) (ifP ((↑(UInt8.toNat (List.getD s (Int.toNat i) 0)) : Int) == sep) (ifP (!op) (∃ (acc4 : List (List UInt8)), ∃ (a5 : Nat), ∃ (b6 : Nat), (1 = 1 ∧ 9 = 9 ∧ 1 = 1 ∧ 9 = 9 ∧ 1 = 1 ∧ 2 = 2 ∧ IntKind.i64 = IntKind.i64 ∧ 9 = 9 ∧ 39 = 39 ∧ 3 = 3) ∧ es = encS acc4 ∧ n = List.length acc4 ∧ f = (↑a5 : Int) ∧ a5 ≤ b6 ∧ b6 ≤ List.length s ∧ List.length s ≤ 10000000 ∧ List.length acc4 ≤ b6 ∧ [AV.int IntKind.i64 i, AV.ptr 0 0, AV.ptr 4 0, AV.ptr 3 0] = [AV.int IntKind.i64 (↑b6 : Int), AV.ptr 0 0, AV.ptr 4 0, AV.ptr 3 0] ∧ ToEnd cfg 75 (bodyOf Tryd.f75) (RetIs Tryd.prog Tryd.f75 v) [Fm.code [0, 1, 0, 1, 1, 1, 1, 1], Fm.block 0, Fm.code [1, 1, 1, 1, 1, 1]] XT.normal [(1, true, AV.int IntKind.u8 sep), (2, true, AV.ptr 0 0), (6, true, AV.ptr 3 0), (8, true, AV.bool op), (9, true, AV.bool be), (10, true, AV.fn (Fn.func 100) [] [AV.ptr 0 0, AV.ptr 4 0, AV.ptr 3 0]), (21, true, AV.int IntKind.i64 m), (22, true, AV.int IntKind.i64 (IntKind.wrap IntKind.i64 (i + 1)))] [Blk.mem 9 [AV.str s], Blk.grow g 1 9, Blk.grow (List.length (acc4 ++ keepP (List.drop a5 (List.take b6 s)))) 1 9, Blk.mem 39 [AV.sl 1 (encS (acc4 ++ keepP (List.drop a5 (List.take b6 s)))) (some 2)], Blk.mem 3 [AV.int IntKind.i64 (↑(b6 + 1) : Int)]]) (ToEnd cfg 75 (bodyOf Tryd.f75) (RetIs Tryd.prog Tryd.f75 v) [Fm.code [0, 1, 0, 1, 1, 1, 1, 1], Fm.block 0, Fm.code [1, 1, 1, 1, 1, 1]] XT.normal [(1, true, AV.int IntKind.u8 sep), (2, true, AV.ptr 0 0), (6, true, AV.ptr 3 0), (8, true, AV.bool op), (9, true, AV.bool be), (10, true, AV.fn (Fn.func 100) [] [AV.ptr 0 0, AV.ptr 4 0, AV.ptr 3 0]), (21, true, AV.int IntKind.i64 m), (22, true, AV.int IntKind.i64 (IntKind.wrap IntKind.i64 (i + 1)))] [Blk.mem 9 [AV.str s], Blk.grow g 1 9, Blk.grow n 1 9, Blk.mem 39 [AV.sl 1 es (some 2)], Blk.mem 3 [AV.int IntKind.i64 f]])) (ToEnd cfg 75 (bodyOf Tryd.f75) (RetIs Tryd.prog Tryd.f75 v) [Fm.code [0, 1, 0, 1, 1, 1, 1, 1], Fm.block 0, Fm.code [1, 1, 1, 1, 1, 1]] XT.normal [(1, true, AV.int IntKind.u8 sep), (2, true, AV.ptr 0 0), (6, true, AV.ptr 3 0), (8, true, AV.bool op), (9, true, AV.bool be), (10, true, AV.fn (Fn.func 100) [] [AV.ptr 0 0, AV.ptr 4 0, AV.ptr 3 0]), (21, true, AV.int IntKind.i64 m), (22, true, AV.int IntKind.i64 (IntKind.wrap IntKind.i64 (i + 1)))] [Blk.mem 9 [AV.str s], Blk.grow g 1 9, Blk.grow n 1 9, Blk.mem 39 [AV.sl 1 es (some 2)], Blk.mem 3 [AV.int IntKind.i64 f]]))))))
  (ifP op (AV.tup [AV.sl 1 [] none, AV.int IntKind.i64 4] = v) (∃ (acc7 : List (List UInt8)), ∃ (a8 : Nat), ∃ (b9 : Nat), (1 = 1 ∧ 9 = 9 ∧ 1 = 1 ∧ 9 = 9 ∧ 1 = 1 ∧ 2 = 2 ∧ IntKind.i64 = IntKind.i64 ∧ 9 = 9 ∧ 39 = 39 ∧ 3 = 3) ∧ es = encS acc7 ∧ n = List.length acc7 ∧ f = (↑a8 : Int) ∧ a8 ≤ b9 ∧ b9 ≤ List.length s ∧ List.length s ≤ 10000000 ∧ List.length acc7 ≤ b9 ∧ [AV.int IntKind.i64 (↑(List.length s) : Int), AV.ptr 0 0, AV.ptr 4 0, AV.ptr 3 0] = [AV.int IntKind.i64 (↑b9 : Int), AV.ptr 0 0, AV.ptr 4 0, AV.ptr 3 0] ∧ ifP (decide ((↑(List.length (encS (acc7 ++ keepP (List.drop a8 (List.take b9 s))))) : Int) > 64)) (AV.tup [AV.sl 1 [] none, AV.int IntKind.i64 3] = v) (AV.tup [AV.sl 1 (stripss 0 [Blk.mem 9 [AV.str s], Blk.grow g 1 9, Blk.grow (List.length (acc7 ++ keepP (List.drop a8 (List.take b9 s)))) 1 9, Blk.mem 39 [AV.sl 1 (encS (acc7 ++ keepP (List.drop a8 (List.take b9 s)))) (some 2)], Blk.mem 3 [AV.int IntKind.i64 (↑(b9 + 1) : Int)]] (encS (acc7 ++ keepP (List.drop a8 (List.take b9 s))))) none, AV.int IntKind.i64 0] = v)))) := by kernel_rfl
  exact ends_round hT 100000 (by kernel_rfl) (e.mpr H)

theorem t101a {v : AV} {s : List UInt8} (hT : TabOk cfg (ctab [])) (H :
    gAnd (decide ((↑(List.length s) : Int) = (↑(List.length s) : Int)) && decide (1 * (↑(List.length s) : Int) ≤ 281474976710656) && decide ((↑(List.length s) : Int) ≤ 9223372036854775807) && true && true && true) (ToEnd cfg 101 (bodyOf Tryd.f101) (RetIs Tryd.prog Tryd.f101 v) [Fm.code [0, 0, 1, 1, 1], Fm.block 0, Fm.code [1, 1, 1, 1]] XT.normal [(0, true, AV.str s), (4, true, AV.osl 1 0 (Int.toNat (↑(List.length s) : Int)) 1), (5, true, AV.int IntKind.i64 0)] [Blk.grow 0 1 4, Blk.mem 4 (List.replicate (Int.toNat (↑(List.length s) : Int)) (ofConst (Value.bool false)))])) :
    ToEnd cfg 101 (bodyOf Tryd.f101) (RetIs Tryd.prog Tryd.f101 v) ([.code []]) .normal ([(0, true, .str s)]) ([]) := by
  have e : unr cfg 101 (bodyOf Tryd.f101) (ctab []) ⟨[[0, 0, 1, 1, 1], [0, 0, 1, 1, 1, 0, 1, 0, 0, 0, 1, 1, 1]], []⟩ (RetIs Tryd.prog Tryd.f101 v) 100000 ([.code []]) .normal ([(0, true, .str s)]) ([]) =
    (gAnd (decide ((↑(List.length s) : Int) = (↑(List.length s) : Int)) && decide (1 * (↑(List.length s) : Int) ≤ 281474976710656) && decide ((↑(List.length s) : Int) ≤ 9223372036854775807) && true && true && true) (ToEnd cfg 101 (bodyOf Tryd.f101) (RetIs Tryd.prog Tryd.f101 v) [Fm.code [0, 0, 1, 1, 1], Fm.block 0, Fm.code [1, 1, 1, 1]] XT.normal [(0, true, AV.str s), (4, true, AV.osl 1 0 (Int.toNat (↑(List.length s) : Int)) 1), (5, true, AV.int IntKind.i64 0)] [Blk.grow 0 1 4, Blk.mem 4 (List.replicate (Int.toNat (↑(List.length s) : Int)) (ofConst (Value.bool false)))])) := by kernel_rfl
  exact unr_ok hT 100000 _ _ _ _ (e.mpr H)

theorem t101b {v : AV} {s : List UInt8} {N : Nat} {i : Int} {cs : List AV} (hT : TabOk cfg (ctab [])) (H :
    ifP (decide (i < (↑(List.length s) : Int))) (gAnd (inR i (List.length s)) (ifP ((↑(UInt8.toNat (List.getD s (Int.toNat i) 0)) : Int) != 34) (ToEnd cfg 101 (bodyOf Tryd.f101) (RetIs Tryd.prog Tryd.f101 v) [Fm.code [0, 0, 1, 1, 1], Fm.block 0, Fm.code [1, 1, 1, 1]] XT.normal [(0, true, AV.str s), (4, true, AV.osl 1 0 N 1), (5, true, AV.int IntKind.i64 (IntKind.wrap IntKind.i64 (i + 1)))] [Blk.grow 0 1 4, Blk.mem 4 cs]) (gAnd (inR i N && true && true) (gAnd (Nat.ble (0 + Int.toNat i * 1 + 1) (List.length cs)) (ToEnd cfg 101 (bodyOf Tryd.f101) (RetIs Tryd.prog Tryd.f101 v) [Fm.code [0, 0, 1, 1, 1, 0, 1, 0, 0, 0, 1, 1, 1], Fm.block 2, Fm.code [1, 1, 1, 1, 0, 1, 0, 0, 0, 1, 1, 1], Fm.block 1, Fm.loop [0, 0, 1, 1, 1] 2, Fm.block 0, Fm.code [1, 1, 1, 1]] XT.normal [(0, true, AV.str s), (4, true, AV.osl 1 0 N 1), (5, true, AV.int IntKind.i64 (IntKind.wrap IntKind.i64 (i + 1)))] [Blk.grow 0 1 4, Blk.mem 4 (splice cs (0 + Int.toNat i * 1) [ofConst (Value.bool true)])]))))) (AV.tup [stripR1 0 [Blk.grow 0 1 4, Blk.mem 4 cs] (AV.osl 1 0 N 1), AV.bool true] = v)) :
    ToEnd cfg 101 (bodyOf Tryd.f101) (RetIs Tryd.prog Tryd.f101 v) ([.code [0, 0, 1, 1, 1], .block 0, .code [1, 1, 1, 1]]) .normal ([(0, true, .str s), (4, true, .osl 1 0 N 1), (5, true, .int .i64 i)]) ([.grow 0 1 4, .mem 4 cs]) := by
  have e : unr cfg 101 (bodyOf Tryd.f101) (ctab []) ⟨[[0, 0, 1, 1, 1], [0, 0, 1, 1, 1, 0, 1, 0, 0, 0, 1, 1, 1]], []⟩ (RetIs Tryd.prog Tryd.f101 v) 100000 ([.code [0, 0, 0, 1, 1, 1], .loop [0, 0, 1, 1, 1] 2, .block 0, .code [1, 1, 1, 1]]) .normal ([(0, true, .str s), (4, true, .osl 1 0 N 1), (5, true, .int .i64 i)]) ([.grow 0 1 4, .mem 4 cs]) =
    (ifP (decide (i < (↑(List.length s) : Int))) (gAnd (inR i (List.length s)) (ifP ((↑(UInt8.toNat (List.getD s (Int.toNat i) 0)) : Int) != 34) (ToEnd cfg 101 (bodyOf Tryd.f101) (RetIs Tryd.prog Tryd.f101 v) [Fm.code [0, 0, 1, 1, 1], Fm.block 0, Fm.code [1, 1, 1, 1]] XT.normal [(0, true, AV.str s), (4, true, AV.osl 1 0 N 1), (5, true, AV.int IntKind.i64 (IntKind.wrap IntKind.i64 (i + 1)))] [Blk.grow 0 1 4, Blk.mem 4 cs]) (gAnd (inR i N && true && true) (gAnd (Nat.ble (0 + Int.toNat i * 1 + 1) (List.length cs)) (ToEnd cfg 101 (bodyOf Tryd.f101) (RetIs Tryd.prog Tryd.f101 v) [Fm.code [0, 0, 1, 1, 1, 0, 1, 0, 0, 0, 1, 1, 1], Fm.block 2, Fm.code [1, 1, 1, 1, 0, 1, 0, 0, 0, 1, 1, 1], Fm.block 1, Fm.loop [0, 0, 1, 1, 1] 2, Fm.block 0, Fm.code [1, 1, 1, 1]] XT.normal [(0, true, AV.str s), (4, true, AV.osl 1 0 N 1), (5, true, AV.int IntKind.i64 (IntKind.wrap IntKind.i64 (i + 1)))] [Blk.grow 0 1 4, Blk.mem 4 (splice cs (0 + Int.toNat i * 1) [ofConst (Value.bool true)])]))))) (AV.tup [stripR1 0 [Blk.grow 0 1 4, Blk.mem 4 cs] (AV.osl 1 0 N 1), AV.bool true] = v)) := by kernel_rfl
  exact ends_round hT 100000 (by kernel_rfl) (e.mpr H)

theorem t101c {v : AV} {s : List UInt8} {N : Nat} {i : Int} {cs : List AV} (hT : TabOk cfg (ctab [])) (H :
    ifP (decide (i < (↑(List.length s) : Int))) (gAnd (inR i (List.length s)) (ifP ((↑(UInt8.toNat (List.getD s (Int.toNat i) 0)) : Int) != 34) (gAnd (inR i N && true && true) (gAnd (Nat.ble (0 + Int.toNat i * 1 + 1) (List.length cs)) (gAnd (inR i (List.length s)) (ifP ((↑(UInt8.toNat (List.getD s (Int.toNat i) 0)) : Int) == 92) (ifP (decide (IntKind.wrap IntKind.i64 (i + 1) < (↑(List.length s) : Int))) (gAnd (inR (IntKind.wrap IntKind.i64 (i + 1)) N && true && true) (gAnd (Nat.ble (0 + Int.toNat (IntKind.wrap IntKind.i64 (i + 1)) * 1 + 1) (List.length (splice cs (0 + Int.toNat i * 1) [ofConst (Value.bool true)]))) (ToEnd cfg 101 (bodyOf Tryd.f101) (RetIs Tryd.prog Tryd.f101 v) [Fm.code [0, 0, 1, 1, 1, 0, 1, 0, 0, 0, 1, 1, 1], Fm.block 2, Fm.code [1, 1, 1, 1, 0, 1, 0, 0, 0, 1, 1, 1], Fm.block 1, Fm.loop [0, 0, 1, 1, 1] 2, Fm.block 0, Fm.code [1, 1, 1, 1]] XT.normal [(0, true, AV.str s), (4, true, AV.osl 1 0 N 1), (5, true, AV.int IntKind.i64 (IntKind.wrap IntKind.i64 (IntKind.wrap IntKind.i64 (i + 1) + 1)))] [Blk.grow 0 1 4, Blk.mem 4 (splice (splice cs (0 + Int.toNat i * 1) [ofConst (Value.bool true)]) (0 + Int.toNat (IntKind.wrap IntKind.i64 (i + 1)) * 1) [ofConst (Value.bool true)])]))) (ToEnd cfg 101 (bodyOf Tryd.f101) (RetIs Tryd.prog Tryd.f101 v) [Fm.code [0, 0, 1, 1, 1, 0, 1, 0, 0, 0, 1, 1, 1], Fm.block 2, Fm.code [1, 1, 1, 1, 0, 1, 0, 0, 0, 1, 1, 1], Fm.block 1, Fm.loop [0, 0, 1, 1, 1] 2, Fm.block 0, Fm.code [1, 1, 1, 1]] XT.normal [(0, true, AV.str s), (4, true, AV.osl 1 0 N 1), (5, true, AV.int IntKind.i64 (IntKind.wrap IntKind.i64 (i + 1)))] [Blk.grow 0 1 4, Blk.mem 4 (splice cs (0 + Int.toNat i * 1) [ofConst (Value.bool true)])])) (ToEnd cfg 101 (bodyOf Tryd.f101) (RetIs Tryd.prog Tryd.f101 v) [Fm.code [0, 0, 1, 1, 1, 0, 1, 0, 0, 0, 1, 1, 1], Fm.block 2, Fm.code [1, 1, 1, 1, 0, 1, 0, 0, 0, 1, 1, 1], Fm.block 1, Fm.loop [0, 0, 1, 1, 1] 2, Fm.block 0, Fm.code [1, 1, 1, 1]] XT.normal [(0, true, AV.str s), (4, true, AV.osl 1 0 N 1), (5, true, AV.int IntKind.i64 (IntKind.wrap IntKind.i64 (i + 1)))] [Blk.grow 0 1 4, Blk.mem 4 (splice cs (0 + Int.toNat i * 1) [ofConst (Value.bool true)])]))))) (ifP (i == (↑(List.length s) : Int)) (AV.tup [stripR1 0 [Blk.grow 0 1 4, Blk.mem 4 cs] (AV.osl 1 0 N 1), AV.bool false] = v) (gAnd (inR i N && true && true) (gAnd (Nat.ble (0 + Int.toNat i * 1 + 1) (List.length cs)) (ToEnd cfg 101 (bodyOf Tryd.f101) (RetIs Tryd.prog Tryd.f101 v) [Fm.code [0, 0, 1, 1, 1], Fm.block 0, Fm.code [1, 1, 1, 1]] XT.normal [(0, true, AV.str s), (4, true, AV.osl 1 0 N 1), (5, true, AV.int IntKind.i64 (IntKind.wrap IntKind.i64 (i + 1)))] [Blk.grow 0 1 4, Blk.mem 4 (splice cs (0 + Int.toNat i * 1) [ofConst (Value.bool true)])])))))) (ifP (i == (↑(List.length s) : Int)) (AV.tup [stripR1 0 [Blk.grow 0 1 4, Blk.mem 4 cs] (AV.osl 1 0 N 1), AV.bool false] = v) (gAnd (inR i N && true && true) (gAnd (Nat.ble (0 + Int.toNat i * 1 + 1) (List.length cs)) (ToEnd cfg 101 (bodyOf Tryd.f101) (RetIs Tryd.prog Tryd.f101 v) [Fm.code [0, 0, 1, 1, 1], Fm.block 0, Fm.code [1, 1, 1, 1]] XT.normal [(0, true, AV.str s), (4, true, AV.osl 1 0 N 1), (5, true, AV.int IntKind.i64 (IntKind.wrap IntKind.i64 (i + 1)))] [Blk.grow 0 1 4, Blk.mem 4 (splice cs (0 + Int.toNat i * 1) [ofConst (Value.bool true)])]))))) :
    ToEnd cfg 101 (bodyOf Tryd.f101) (RetIs Tryd.prog Tryd.f101 v) ([.code [0, 0, 1, 1, 1, 0, 1, 0, 0, 0, 1, 1, 1], .block 2, .code [1, 1, 1, 1, 0, 1, 0, 0, 0, 1, 1, 1], .block 1, .loop [0, 0, 1, 1, 1] 2, .block 0, .code [1, 1, 1, 1]]) .normal ([(0, true, .str s), (4, true, .osl 1 0 N 1), (5, true, .int .i64 i)]) ([.grow 0 1 4, .mem 4 cs]) := by
  have e : unr cfg 101 (bodyOf Tryd.f101) (ctab []) ⟨[[0, 0, 1, 1, 1], [0, 0, 1, 1, 1, 0, 1, 0, 0, 0, 1, 1, 1]], []⟩ (RetIs Tryd.prog Tryd.f101 v) 100000 ([.code [0, 0, 0, 1, 1, 1, 0, 1, 0, 0, 0, 1, 1, 1], .loop [0, 0, 1, 1, 1, 0, 1, 0, 0, 0, 1, 1, 1] 2, .block 2, .code [1, 1, 1, 1, 0, 1, 0, 0, 0, 1, 1, 1], .block 1, .loop [0, 0, 1, 1, 1] 2, .block 0, .code [1, 1, 1, 1]]) .normal ([(0, true, .str s), (4, true, .osl 1 0 N 1), (5, true, .int .i64 i)]) ([.grow 0 1 4, .mem 4 cs]) =
    (ifP (decide (i < (↑(List.length s) : Int))) (gAnd (inR i (List.length s)) (ifP ((↑(UInt8.toNat (List.getD s (Int.toNat i) 0)) : Int) != 34) (gAnd (inR i N && true && true) (gAnd (Nat.ble (0 + Int.toNat i * 1 + 1) (List.length cs)) (gAnd (inR i (List.length s)) (ifP ((↑(UInt8.toNat (List.getD s (Int.toNat i) 0)) : Int) == 92) (ifP (decide (IntKind.wrap IntKind.i64 (i + 1) < (↑(List.length s) : Int))) (gAnd (inR (IntKind.wrap IntKind.i64 (i + 1)) N && true && true) (gAnd (Nat.ble (0 + Int.toNat (IntKind.wrap IntKind.i64 (i + 1)) * 1 + 1) (List.length (splice cs (0 + Int.toNat i * 1) [ofConst (Value.bool true)]))) (ToEnd cfg 101 (bodyOf Tryd.f101) (RetIs Tryd.prog Tryd.f101 v) [Fm.code [0, 0, 1, 1, 1, 0, 1, 0, 0, 0, 1, 1, 1], Fm.block 2, Fm.code [1, 1, 1, 1, 0, 1, 0, 0, 0, 1, 1, 1], Fm.block 1, Fm.loop [0, 0, 1, 1, 1] 2, Fm.block 0, Fm.code [1, 1, 1, 1]] XT.normal [(0, true, AV.str s), (4, true, AV.osl 1 0 N 1), (5, true, AV.int IntKind.i64 (IntKind.wrap IntKind.i64 (IntKind.wrap IntKind.i64 (i + 1) + 1)))] [Blk.grow 0 1 4, Blk.mem 4 (splice (splice cs (0 + Int.toNat i * 1) [ofConst (Value.bool true)]) (0 + Int.toNat (IntKind.wrap IntKind.i64 (i + 1)) * 1) [ofConst (Value.bool true)])]))) (ToEnd cfg 101 (bodyOf Tryd.f101) (RetIs Tryd.prog Tryd.f101 v) [Fm.code [0, 0, 1, 1, 1, 0, 1, 0, 0, 0, 1, 1, 1], Fm.block 2, Fm.code [1, 1, 1, 1, 0, 1, 0, 0, 0, 1, 1, 1], Fm.block 1, Fm.loop [0, 0, 1, 1, 1] 2, Fm.block 0, Fm.code [1, 1, 1, 1]] XT.normal [(0, true, AV.str s), (4, true, AV.osl 1 0 N 1), (5, true, AV.int IntKind.i64 (IntKind.wrap IntKind.i64 (i + 1)))] [Blk.grow 0 1 4, Blk.mem 4 (splice cs (0 + Int.toNat i * 1) [ofConst (Value.bool true)])])) (ToEnd cfg 101 (bodyOf Tryd.f101) (RetIs Tryd.prog Tryd.f101 v) [Fm.code [0, 0, 1, 1, 1, 0, 1, 0, 0, 0, 1, 1, 1], Fm.block 2, Fm.code [1, 1, 1, 1, 0, 1, 0, 0, 0, 1, 1, 1], Fm.block 1, Fm.loop [0, 0, 1, 1, 1] 2, Fm.block 0, Fm.code [1, 1, 1, 1]] XT.normal [(0, true, AV.str s), (4, true, AV.osl 1 0 N 1), (5, true, AV.int IntKind.i64 (IntKind.wrap IntKind.i64 (i + 1)))] [Blk.grow 0 1 4, Blk.mem 4 (splice cs (0 + Int.toNat i * 1) [ofConst (Value.bool true)])]))))) (ifP (i == (↑(List.length s) : Int)) (AV.tup [stripR1 0 [Blk.grow 0 1 4, Blk.mem 4 cs] (AV.osl 1 0 N 1), AV.bool false] = v) (gAnd (inR i N && true && true) (gAnd (Nat.ble (0 + Int.toNat i * 1 + 1) (List.length cs)) (ToEnd cfg 101 (bodyOf Tryd.f101) (RetIs Tryd.prog Tryd.f101 v) [Fm.code [0, 0, 1, 1, 1], Fm.block 0, Fm.code [1, 1, 1, 1]] XT.normal [(0, true, AV.str s), (4, true, AV.osl 1 0 N 1), (5, true, AV.int IntKind.i64 (IntKind.wrap IntKind.i64 (i + 1)))] [Blk.grow 0 1 4, Blk.mem 4 (splice cs (0 + Int.toNat i * 1) [ofConst (Value.bool true)])])))))) (ifP (i == (↑(List.length s) : Int)) (AV.tup [stripR1 0 [Blk.grow 0 1 4, Blk.mem 4 cs] (AV.osl 1 0 N 1), AV.bool false] = v) (gAnd (inR i N && true && true) (gAnd (Nat.ble (0 + Int.toNat i * 1 + 1) (List.length cs)) (ToEnd cfg 101 (bodyOf Tryd.f101) (RetIs Tryd.prog Tryd.f101 v) [Fm.code [0, 0, 1, 1, 1], Fm.block 0, Fm.code [1, 1, 1, 1]] XT.normal [(0, true, AV.str s), (4, true, AV.osl 1 0 N 1), (5, true, AV.int IntKind.i64 (IntKind.wrap IntKind.i64 (i + 1)))] [Blk.grow 0 1 4, Blk.mem 4 (splice cs (0 + Int.toNat i * 1) [ofConst (Value.bool true)])]))))) := by kernel_rfl
  exact ends_round hT 100000 (by kernel_rfl) (e.mpr H)

theorem t76a {v : AV} {s : List UInt8} {sep : Int} (hT : TabOk cfg (ctab [(101, quotC), (92, trimC)])) (H :
    ifP (sep == 34) (AV.tup [AV.sl 1 [] none, AV.int IntKind.i64 2] = v) (ifP (sep == 92) (AV.tup [AV.sl 1 [] none, AV.int IntKind.i64 2] = v) (∃ (s1 : List UInt8), List.length s1 ≤ 10000000 ∧ [AV.str s] = [AV.str s1] ∧ ifP (!!opnG false false s1) (AV.tup [AV.sl 1 [] none, AV.int IntKind.i64 4] = v) (ToEnd cfg 76 (bodyOf Tryd.f76) (RetIs Tryd.prog Tryd.f76 v) [Fm.code [0, 1, 0, 1, 1, 1, 1, 1, 1], Fm.block 0, Fm.code [1, 1, 1, 1, 1, 1, 1]] XT.normal [(0, true, AV.str s), (1, true, AV.int IntKind.u8 sep), (6, true, AV.sl 1 (List.map (fun (b : Bool) ↦ [AV.bool b]) (quoG false false s1)) none), (8, true, AV.sl 1 [] (some 1)), (9, true, AV.int IntKind.i64 0), (10, true, AV.int IntKind.i64 0)] [Blk.grow 0 1 9, Blk.grow 0 1 9])))) :
    ToEnd cfg 76 (bodyOf Tryd.f76) (RetIs Tryd.prog Tryd.f76 v) ([.code []]) .normal ([(0, true, .str s), (1, true, .int .u8 sep)]) ([]) := by
  have e : unr cfg 76 (bodyOf Tryd.f76) (ctab [(101, quotC), (92, trimC)]) ⟨[[0, 1, 0, 1, 1, 1, 1, 1, 1]], [([0, 0, 0, 0, 1, 0, 0, 1, 0, 1, 1, 1, 1, 1, 1], 13, [.bool])]⟩ (RetIs Tryd.prog Tryd.f76 v) 100000 ([.code []]) .normal ([(0, true, .str s), (1, true, .int .u8 sep)]) ([]) =
    (ifP (sep == 34) (AV.tup [AV.sl 1 [] none, AV.int IntKind.i64 2] = v) (ifP (sep == 92) (AV.tup [AV.sl 1 [] none, AV.int IntKind.i64 2] = v) (∃ (s1 : List UInt8), List.length s1 ≤ 10000000 ∧ [AV.str s] = [AV.str s1] ∧ ifP (!!opnG false false s1) (AV.tup [AV.sl 1 [] none, AV.int IntKind.i64 4] = v) (ToEnd cfg 76 (bodyOf Tryd.f76) (RetIs Tryd.prog Tryd.f76 v) [Fm.code [0, 1, 0, 1, 1, 1, 1, 1, 1], Fm.block 0, Fm.code [1, 1, 1, 1, 1, 1, 1]] XT.normal [(0, true, AV.str s), (1, true, AV.int IntKind.u8 sep), (6, true, AV.sl 1 (List.map (fun (b : Bool) ↦ [AV.bool b]) (quoG false false s1)) none), (8, true, AV.sl 1 [] (some 1)), (9, true, AV.int IntKind.i64 0), (10, true, AV.int IntKind.i64 0)] [Blk.grow 0 1 9, Blk.grow 0 1 9])))) := by kernel_rfl
  exact unr_ok hT 100000 _ _ _ _ (e.mpr H)

theorem t76b {v : AV}   {s0 : List UInt8} {i1 : Int} {e6 : List (List AV)} {e8 : List (List AV)} {i9 : Int} {i10 : Int} {g0 : Nat} {g1 : Nat} (hT : TabOk cfg (ctab [(101, quotC), (92, trimC)])) (H :
    ifP (decide (i10 ≤ (↑(List.length s0) : Int)))
  (ifP (decide (i10 < (↑(List.length s0) : Int))) (gAnd (inR i10 (List.length s0)) (ifP ((↑(UInt8.toNat (List.getD s0 (Int.toNat i10) 0)) : Int) != i1) (gAnd (lowVss 2 e6 && true && (lowVss 2 e8 && true && true) && true) (ToEnd cfg 76 (bodyOf Tryd.f76) (RetIs Tryd.prog Tryd.f76 v) [Fm.code [0, 1, 0, 1, 1, 1, 1, 1, 1], Fm.block 0, Fm.code [1, 1, 1, 1, 1, 1, 1]] XT.normal [(0, true, AV.str s0), (1, true, AV.int IntKind.u8 i1), (6, true, AV.sl 1 e6 none), (8, true, AV.sl 1 e8 (some 1)), (9, true, AV.int IntKind.i64 i9), (10, true, AV.int IntKind.i64 (IntKind.wrap IntKind.i64 (i10 + 1)))] [Blk.grow g0 1 9, Blk.grow g1 1 9])) (gAnd (inR i10 (List.length e6) && true && true) (∃ (b1 : Bool), getE e6 i10 = [AV.bool b1] ∧ ifP b1 (gAnd (lowVss 2 e6 && true && (lowVss 2 e8 && true && true) && true) (ToEnd cfg 76 (bodyOf Tryd.f76) (RetIs Tryd.prog Tryd.f76 v) [Fm.code [0, 1, 0, 1, 1, 1, 1, 1, 1], Fm.block 0, Fm.code [1, 1, 1, 1, 1, 1, 1]] XT.normal [(0, true, AV.str s0), (1, true, AV.int IntKind.u8 i1), (6, true, AV.sl 1 e6 none), (8, true, AV.sl 1 e8 (some 1)), (9, true, AV.int IntKind.i64 i9), (10, true, AV.int IntKind.i64 (IntKind.wrap IntKind.i64 (i10 + 1)))] [Blk.grow g0 1 9, Blk.grow g1 1 9])) (gAnd (cutOb (List.length s0) (some i9) (some i10)) (∃ (s2 : List UInt8), List.length s2 ≤ 10000000 ∧ [AV.str (cutL s0 (some i9) (some i10))] = [AV.str s2] ∧ ifP (!trB s2 == []) (gAnd (tagOk [Blk.grow g0 1 9, Blk.grow g1 1 9, Blk.grow 1 1 9] (List.length e8) 1 9 (some 1) && true && true && true && decide ((List.length e8 + 1) * 16 ≤ 140737488355328) && true && true) (gAnd (lowVss 2 e6 && true && (lowVss 2 (e8 ++ [[AV.str (trB s2)]]) && true && true) && true) (ToEnd cfg 76 (bodyOf Tryd.f76) (RetIs Tryd.prog Tryd.f76 v) [Fm.code [0, 1, 0, 1, 1, 1, 1, 1, 1], Fm.block 0, Fm.code [1, 1, 1, 1, 1, 1, 1]] XT.normal [(0, true, AV.str s0), (1, true, AV.int IntKind.u8 i1), (6, true, AV.sl 1 e6 none), (8, true, AV.sl 1 (e8 ++ [[AV.str (trB s2)]]) (some 1)), (9, true, AV.int IntKind.i64 (IntKind.wrap IntKind.i64 (i10 + 1))), (10, true, AV.int IntKind.i64 (IntKind.wrap IntKind.i64 (i10 + 1)))] [Blk.grow g0 1 9, Blk.grow (List.length e8 + 1) 1 9]))) (gAnd (lowVss 2 e6 && true && (lowVss 2 e8 && true && true) && true) (ToEnd cfg 76 (bodyOf Tryd.f76) (RetIs Tryd.prog Tryd.f76 v) [Fm.code [0, 1, 0, 1, 1, 1, 1, 1, 1], Fm.block 0, Fm.code [1, 1, 1, 1, 1, 1, 1]] XT.normal [(0, true, AV.str s0), (1, true, AV.int IntKind.u8 i1), (6, true, AV.sl 1 e6 none), (8, true, AV.sl 1 e8 (some 1)), (9, true, AV.int IntKind.i64 (IntKind.wrap IntKind.i64 (i10 + 1))), (10, true, AV.int IntKind.i64 (IntKind.wrap IntKind.i64 (i10 + 1)))] [Blk.grow g0 1 9, Blk.grow g1 1 9]))))))))
    (gAnd (cutOb (List.length s0) (some i9) (some i10)) (∃ (s3 : List UInt8), List.length s3 ≤ 10000000 ∧ [AV.str (cutL s0 (some i9) (some i10))] = [AV.str s3] ∧ ifP (!trB s3 == []) (gAnd (tagOk [Blk.grow g0 1 9, Blk.grow g1 1 9, Blk.grow 1 1 9] (List.length e8) 1 9 (some 1) && true && true && true && decide ((List.length e8 + 1) * 16 ≤ 140737488355328) && true && true) (gAnd (lowVss 2 e6 && true && (lowVss 2 (e8 ++ [[AV.str (trB s3)]]) && true && true) && true) (ToEnd cfg 76 (bodyOf Tryd.f76) (RetIs Tryd.prog Tryd.f76 v) [Fm.code [0, 1, 0, 1, 1, 1, 1, 1, 1], Fm.block 0, Fm.code [1, 1, 1, 1, 1, 1, 1]] XT.normal [(0, true, AV.str s0), (1, true, AV.int IntKind.u8 i1), (6, true, AV.sl 1 e6 none), (8, true, AV.sl 1 (e8 ++ [[AV.str (trB s3)]]) (some 1)), (9, true, AV.int IntKind.i64 (IntKind.wrap IntKind.i64 (i10 + 1))), (10, true, AV.int IntKind.i64 (IntKind.wrap IntKind.i64 (i10 + 1)))] [Blk.grow g0 1 9, Blk.grow (List.length e8 + 1) 1 9]))) (gAnd (lowVss 2 e6 && true && (lowVss 2 e8 && true && true) && true) (ToEnd cfg 76 (bodyOf Tryd.f76) (RetIs Tryd.prog Tryd.f76 v) [Fm.code [0, 1, 0, 1, 1, 1, 1, 1, 1], Fm.block 0, Fm.code [1, 1, 1, 1, 1, 1, 1]] XT.normal [(0, true, AV.str s0), (1, true, AV.int IntKind.u8 i1), (6, true, AV.sl 1 e6 none), (8, true, AV.sl 1 e8 (some 1)), (9, true, AV.int IntKind.i64 (IntKind.wrap IntKind.i64 (i10 + 1))), (10, true, AV.int IntKind.i64 (IntKind.wrap IntKind.i64 (i10 + 1)))] [Blk.grow g0 1 9, Blk.grow g1 1 9])))))
  (ifP (decide ((↑(List.length e8) : Int) > 64)) (AV.tup [AV.sl 1 [] none, AV.int IntKind.i64 3] = v) (AV.tup [AV.sl 1 (stripss 0 [Blk.grow g0 1 9, Blk.grow g1 1 9] e8) none, AV.int IntKind.i64 0] = v))) :
    ToEnd cfg 76 (bodyOf Tryd.f76) (RetIs Tryd.prog Tryd.f76 v) ([.code [0, 1, 0, 1, 1, 1, 1, 1, 1], Fm.block 0, Fm.code [1, 1, 1, 1, 1, 1, 1]]) .normal ([(0, true, AV.str s0), (1, true, AV.int IntKind.u8 i1), (6, true, AV.sl 1 e6 none), (8, true, AV.sl 1 e8 (some 1)), (9, true, AV.int IntKind.i64 i9), (10, true, AV.int IntKind.i64 i10)]) ([Blk.grow g0 1 9, Blk.grow g1 1 9]) := by
  have e : unr cfg 76 (bodyOf Tryd.f76) (ctab [(101, quotC), (92, trimC)]) ⟨[[0, 1, 0, 1, 1, 1, 1, 1, 1]], [([0, 0, 0, 0, 1, 0, 0, 1, 0, 1, 1, 1, 1, 1, 1], 13, [.bool])]⟩ (RetIs Tryd.prog Tryd.f76 v) 100000 ([.code [0, 0, 1, 0, 1, 1, 1, 1, 1, 1], .loop [0, 1, 0, 1, 1, 1, 1, 1, 1] 2, Fm.block 0, Fm.code [1, 1, 1, 1, 1, 1, 1]]) .normal ([(0, true, AV.str s0), (1, true, AV.int IntKind.u8 i1), (6, true, AV.sl 1 e6 none), (8, true, AV.sl 1 e8 (some 1)), (9, true, AV.int IntKind.i64 i9), (10, true, AV.int IntKind.i64 i10)]) ([Blk.grow g0 1 9, Blk.grow g1 1 9]) =
    (ifP (decide (i10 ≤ (↑(List.length s0) : Int)))
  (ifP (decide (i10 < (↑(List.length s0) : Int))) (gAnd (inR i10 (List.length s0)) (ifP ((↑(UInt8.toNat (List.getD s0 (Int.toNat i10) 0)) : Int) != i1) (gAnd (lowVss 2 e6 && true && (lowVss 2 e8 && true && true) && true) (ToEnd cfg 76 (bodyOf Tryd.f76) (RetIs Tryd.prog Tryd.f76 v) [Fm.code [0, 1, 0, 1, 1, 1, 1, 1, 1], Fm.block 0, Fm.code [1, 1, 1, 1, 1, 1, 1]] XT.normal [(0, true, AV.str s0), (1, true, AV.int IntKind.u8 i1), (6, true, AV.sl 1 e6 none), (8, true, AV.sl 1 e8 (some 1)), (9, true, AV.int IntKind.i64 i9), (10, true, AV.int IntKind.i64 (IntKind.wrap IntKind.i64 (i10 + 1)))] [Blk.grow g0 1 9, Blk.grow g1 1 9])) (gAnd (inR i10 (List.length e6) && true && true) (∃ (b1 : Bool), getE e6 i10 = [AV.bool b1] ∧ ifP b1 (gAnd (lowVss 2 e6 && true && (lowVss 2 e8 && true && true) && true) (ToEnd cfg 76 (bodyOf Tryd.f76) (RetIs Tryd.prog Tryd.f76 v) [Fm.code [0, 1, 0, 1, 1, 1, 1, 1, 1], Fm.block 0, Fm.code [1, 1, 1, 1, 1, 1, 1]] XT.normal [(0, true, AV.str s0), (1, true, AV.int IntKind.u8 i1), (6, true, AV.sl 1 e6 none), (8, true, AV.sl 1 e8 (some 1)), (9, true, AV.int IntKind.i64 i9), (10, true, AV.int IntKind.i64 (IntKind.wrap IntKind.i64 (i10 + 1)))] [Blk.grow g0 1 9, Blk.grow g1 1 9])) (gAnd (cutOb (List.length s0) (some i9) (some i10)) (∃ (s2 : List UInt8), List.length s2 ≤ 10000000 ∧ [AV.str (cutL s0 (some i9) (some i10))] = [AV.str s2] ∧ ifP (!trB s2 == []) (gAnd (tagOk [Blk.grow g0 1 9, Blk.grow g1 1 9, Blk.grow 1 1 9] (List.length e8) 1 9 (some 1) && true && true && true && decide ((List.length e8 + 1) * 16 ≤ 140737488355328) && true && true) (gAnd (lowVss 2 e6 && true && (lowVss 2 (e8 ++ [[AV.str (trB s2)]]) && true && true) && true) (ToEnd cfg 76 (bodyOf Tryd.f76) (RetIs Tryd.prog Tryd.f76 v) [Fm.code [0, 1, 0, 1, 1, 1, 1, 1, 1], Fm.block 0, Fm.code [1, 1, 1, 1, 1, 1, 1]] XT.normal [(0, true, AV.str s0), (1, true, AV.int IntKind.u8 i1), (6, true, AV.sl 1 e6 none), (8, true, AV.sl 1 (e8 ++ [[AV.str (trB s2)]]) (some 1)), (9, true, AV.int IntKind.i64 (IntKind.wrap IntKind.i64 (i10 + 1))), (10, true, AV.int IntKind.i64 (IntKind.wrap IntKind.i64 (i10 + 1)))] [Blk.grow g0 1 9, Blk.grow (List.length e8 + 1) 1 9]))) (gAnd (lowVss 2 e6 && true && (lowVss 2 e8 && true && true) && true) (ToEnd cfg 76 (bodyOf Tryd.f76) (RetIs Tryd.prog Tryd.f76 v) [Fm.code [0, 1, 0, 1, 1, 1, 1, 1, 1], Fm.block 0, Fm.code [1, 1, 1, 1, 1, 1, 1]] XT.normal [(0, true, AV.str s0), (1, true, AV.int IntKind.u8 i1), (6, true, AV.sl 1 e6 none), (8, true, AV.sl 1 e8 (some 1)), (9, true, AV.int IntKind.i64 (IntKind.wrap IntKind.i64 (i10 + 1))), (10, true, AV.int IntKind.i64 (IntKind.wrap IntKind.i64 (i10 + 1)))] [Blk.grow g0 1 9, Blk.grow g1 1 9]))))))))
    (gAnd (cutOb (List.length s0) (some i9) (some i10)) (∃ (s3 : List UInt8), List.length s3 ≤ 10000000 ∧ [AV.str (cutL s0 (some i9) (some i10))] = [AV.str s3] ∧ ifP (!trB s3 == []) (gAnd (tagOk [Blk.grow g0 1 9, Blk.grow g1 1 9, Blk.grow 1 1 9] (List.length e8) 1 9 (some 1) && true && true && true && decide ((List.length e8 + 1) * 16 ≤ 140737488355328) && true && true) (gAnd (lowVss 2 e6 && true && (lowVss 2 (e8 ++ [[AV.str (trB s3)]]) && true && true) && true) (ToEnd cfg 76 (bodyOf Tryd.f76) (RetIs Tryd.prog Tryd.f76 v) [Fm.code [0, 1, 0, 1, 1, 1, 1, 1, 1], Fm.block 0, Fm.code [1, 1, 1, 1, 1, 1, 1]] XT.normal [(0, true, AV.str s0), (1, true, AV.int IntKind.u8 i1), (6, true, AV.sl 1 e6 none), (8, true, AV.sl 1 (e8 ++ [[AV.str (trB s3)]]) (some 1)), (9, true, AV.int IntKind.i64 (IntKind.wrap IntKind.i64 (i10 + 1))), (10, true, AV.int IntKind.i64 (IntKind.wrap IntKind.i64 (i10 + 1)))] [Blk.grow g0 1 9, Blk.grow (List.length e8 + 1) 1 9]))) (gAnd (lowVss 2 e6 && true && (lowVss 2 e8 && true && true) && true) (ToEnd cfg 76 (bodyOf Tryd.f76) (RetIs Tryd.prog Tryd.f76 v) [Fm.code [0, 1, 0, 1, 1, 1, 1, 1, 1], Fm.block 0, Fm.code [1, 1, 1, 1, 1, 1, 1]] XT.normal [(0, true, AV.str s0), (1, true, AV.int IntKind.u8 i1), (6, true, AV.sl 1 e6 none), (8, true, AV.sl 1 e8 (some 1)), (9, true, AV.int IntKind.i64 (IntKind.wrap IntKind.i64 (i10 + 1))), (10, true, AV.int IntKind.i64 (IntKind.wrap IntKind.i64 (i10 + 1)))] [Blk.grow g0 1 9, Blk.grow g1 1 9])))))
  (ifP (decide ((↑(List.length e8) : Int) > 64)) (AV.tup [AV.sl 1 [] none, AV.int IntKind.i64 3] = v) (AV.tup [AV.sl 1 (stripss 0 [Blk.grow g0 1 9, Blk.grow g1 1 9] e8) none, AV.int IntKind.i64 0] = v))) := by kernel_rfl
  exact ends_round hT 100000 (by kernel_rfl) (e.mpr H)

end Go.Proofs.YtnncfdlpogjlkaaDoor
end

section
namespace Go.Proofs.YtnncfdlpogjlkaaDoor
open Go.Ai Go
set_option linter.unusedSimpArgs false
set_option linter.unusedVariables false
set_option linter.unnecessarySimpa false
set_option maxRecDepth 100000

theorem hf100 : heapFn cfg 100 Tryd.f100 := ⟨by kernel_rfl, by kernel_rfl, by kernel_rfl, by kernel_rfl, by kernel_rfl, by kernel_rfl⟩
theorem pf75 : pureFn cfg 75 Tryd.f75 := ⟨by kernel_rfl, by kernel_rfl, by kernel_rfl, by kernel_rfl, by kernel_rfl, by kernel_rfl⟩
theorem pf101 : pureFn cfg 101 Tryd.f101 := ⟨by kernel_rfl, by kernel_rfl, by kernel_rfl, by kernel_rfl, by kernel_rfl, by kernel_rfl⟩
theorem pf76 : pureFn cfg 76 Tryd.f76 := ⟨by kernel_rfl, by kernel_rfl, by kernel_rfl, by kernel_rfl, by kernel_rfl, by kernel_rfl⟩

theorem c100 : COk cfg 100 takeC := by
  refine cok_heap hf100 fun vs h K ht => ?_
  unfold takeC at ht
  split at ht
  · obtain ⟨acc, a, b, ⟨rfl, rfl, rfl, rfl, rfl, rfl, rfl, rfl, rfl, rfl⟩, rfl, rfl, rfl, hab, hb, hl, ha, rfl, hk⟩ := ht
    rename_i s g
    have hlt : ((s.take b).drop a).length ≤ 10000000 := by simp; unfold lim at hl; omega
    refine t100 (ctab_ok (ctab_cons c68 ctab_nil)) (gAnd_intro (by simp [cutOb]; omega) ⟨(s.take b).drop a, hlt, rfl, ifP_intro (fun q => gAnd_intro ?_ ?_) fun q => ?_⟩)
    · rw [encS_len, tag_ok rfl, decide_eq_true (by unfold lim at hl; omega)]; rfl
    · rw [encS_one, stripss_encS, encS_len, wrap_n (by omega)]
      rw [keepP_some q] at hk
      simpa using hk
    · rw [stripss_encS, wrap_n (by omega)]
      rw [keepP_none q, List.append_nil] at hk
      exact hk
  · exact ht.elim

theorem drop_snoc {a : Nat} {pre : List UInt8} (x : UInt8) (h : a ≤ pre.length) : (pre ++ [x]).drop a = pre.drop a ++ [x] := List.drop_append_of_le_length h
theorem take_pre (pre r : List UInt8) (a : Nat) : ((pre ++ r).take pre.length).drop a = pre.drop a := by simp

theorem loop75 {sep : UInt8} (h34 : sep ≠ 34) (h92 : sep ≠ 92) : ∀ (r pre : List UInt8) (a : Nat) (acc : List (List UInt8)) (op be : Bool), (pre ++ r).length ≤ lim → a ≤ pre.length → acc.length ≤ pre.length →
    ToEnd cfg 75 (bodyOf Tryd.f75) (RetIs Tryd.prog Tryd.f75 (ansV (splitEnd (opnG op be r) (acc ++ splG sep (pre.drop a) op be r)))) [.code [0, 1, 0, 1, 1, 1, 1, 1], .block 0, .code [1, 1, 1, 1, 1, 1]] .normal
      [(1, true, .int .u8 (sep.toNat : Nat)), (2, true, .ptr 0 0), (6, true, .ptr 3 0), (8, true, .bool op), (9, true, .bool be), (10, true, .fn (.func 100) [] [.ptr 0 0, .ptr 4 0, .ptr 3 0]), (21, true, .int .i64 ((pre ++ r).length : Nat)), (22, true, .int .i64 pre.length)]
      [.mem 9 [.str (pre ++ r)], .grow 0 1 9, .grow acc.length 1 9, .mem 39 [.sl 1 (encS acc) (some 2)], .mem 3 [.int .i64 a]] := by
  have hT : TabOk cfg (ctab [(100, takeC)]) := ctab_ok (ctab_cons c100 ctab_nil)
  intro r
  induction r with
  | nil =>
    intro pre a acc op be hl ha hc
    refine t75b hT (ifP_intro (fun c => ?_) fun _ => ifP_intro (fun o => ?_) fun o => ?_)
    · simp at c
    · subst o; rfl
    · subst o
      refine ⟨acc, a, pre.length, ⟨rfl, rfl, rfl, rfl, rfl, rfl, rfl, rfl, rfl, rfl⟩, rfl, rfl, rfl, ha, by simp, hl, by omega, by simp, ?_⟩
      rw [take_pre]
      have e : ∀ o, splG sep (pre.drop a) o be [] = keepP (pre.drop a) := fun _ => rfl
      rw [e]
      refine ifP_intro (fun c => ?_) fun c => ?_
      · rw [encS_len] at c
        simp only [gt_iff_lt, decide_eq_true_eq] at c
        unfold splitEnd opnG
        rw [if_neg (by simp), if_pos (by omega)]; rfl
      · rw [encS_len] at c
        simp only [gt_iff_lt, decide_eq_false_iff_not] at c
        unfold splitEnd opnG
        rw [if_neg (by simp), if_neg (by omega), stripss_encS]; rfl
  | cons x r ih =>
    intro pre a acc op be hl ha hc
    have hlen : pre.length ≤ lim := by simp at hl; omega
    have next : ∀ op' be', opnG op be (x :: r) = opnG op' be' r → splG sep (pre.drop a) op be (x :: r) = splG sep (pre.drop a ++ [x]) op' be' r →
      ToEnd cfg 75 (bodyOf Tryd.f75) (RetIs Tryd.prog Tryd.f75 (ansV (splitEnd (opnG op be (x :: r)) (acc ++ splG sep (pre.drop a) op be (x :: r))))) [.code [0, 1, 0, 1, 1, 1, 1, 1], .block 0, .code [1, 1, 1, 1, 1, 1]] .normal
      [(1, true, .int .u8 (sep.toNat : Nat)), (2, true, .ptr 0 0), (6, true, .ptr 3 0), (8, true, .bool op'), (9, true, .bool be'), (10, true, .fn (.func 100) [] [.ptr 0 0, .ptr 4 0, .ptr 3 0]), (21, true, .int .i64 ((pre ++ x :: r).length : Nat)), (22, true, .int .i64 (IntKind.wrap .i64 ((pre.length : Int) + 1)))]
      [.mem 9 [.str (pre ++ x :: r)], .grow 0 1 9, .grow acc.length 1 9, .mem 39 [.sl 1 (encS acc) (some 2)], .mem 3 [.int .i64 a]] := fun op' be' h1 h2 => by
      rw [h1, h2, wrap_n hlen]
      have := ih (pre ++ [x]) a acc op' be' (by simpa using hl) (by simp; omega) (by simp; omega)
      rw [drop_snoc x ha] at this
      simpa using this
    refine t75b hT (ifP_intro (fun _ => ?_) fun c => ?_)
    · rw [at_pre]
      refine gAnd_intro (inR_nat (by simp)) (ifP_intro (fun b => ?_) fun b => ?_)
      · subst b
        exact next op false (by simp [opnG]) (by simp [splG])
      · subst b
        have hf : ∀ {P : Prop}, (false = true) → P := fun h => by cases h
        have oth : x ≠ 34 → (¬ (op = true ∧ x = 92)) → (¬ (x = sep ∧ op = false)) → _ := fun hx hn hs => next op false (by rw [opnG, if_neg (by simp), if_neg hn, if_neg hx]) (by rw [splG, if_neg (by simp), if_neg hn, if_neg hx, if_neg hs])
        have quo : x = 34 → (¬ (op = true ∧ x = 92)) → _ := fun hx hn => next (!op) false (by rw [opnG, if_neg (by simp), if_neg hn, if_pos hx]) (by rw [splG, if_neg (by simp), if_neg hn, if_pos hx])
        refine ifP_intro (fun o => ?_) fun o => ?_
        · subst o
          refine ifP_intro (fun d => ?_) fun d => ?_
          · have hx : x = 92 := ueq 92 rfl d
            exact next true true (by rw [opnG, if_neg (by simp), if_pos ⟨rfl, hx⟩]) (by rw [splG, if_neg (by simp), if_pos ⟨rfl, hx⟩])
          · have hx : x ≠ 92 := une 92 rfl d
            refine ifP_intro (fun e => ?_) fun e => ?_
            · exact quo (ueq 34 rfl e) (fun h => hx h.2)
            · exact ifP_intro (fun _ => ifP_intro (fun h => by cases h) fun _ => oth (une 34 rfl e) (fun h => hx h.2) (fun h => by cases h.2)) fun _ => oth (une 34 rfl e) (fun h => hx h.2) (fun h => by cases h.2)
        · subst o
          refine ifP_intro (fun e => quo (ueq 34 rfl e) (fun h => by cases h.1)) fun e => ?_
          refine ifP_intro (fun g => ifP_intro (fun _ => ?_) fun h => by cases h) fun g => oth (une 34 rfl e) (fun h => by cases h.1) (fun h => une sep rfl g h.1)
          have hx : x = sep := ueq sep rfl g
          refine ⟨acc, a, pre.length, ⟨rfl, rfl, rfl, rfl, rfl, rfl, rfl, rfl, rfl, rfl⟩, rfl, rfl, rfl, ha, by simp, hl, hc, rfl, ?_⟩
          rw [take_pre, wrap_n hlen]
          have := ih (pre ++ [x]) (pre.length + 1) (acc ++ keepP (pre.drop a)) false false (by simpa using hl) (by simp) (by have := keepP_len (pre.drop a); simp; omega)
          have e1 : opnG false false (x :: r) = opnG false false r := by rw [opnG, if_neg (by simp), if_neg (by simp), if_neg (une 34 rfl e)]
          have e2 : splG sep (pre.drop a) false false (x :: r) = keepP (pre.drop a) ++ splG sep [] false false r := by rw [splG, if_neg (by simp), if_neg (by simp), if_neg (une 34 rfl e), if_pos ⟨hx, rfl⟩]
          have e3 : (pre ++ [x]).drop (pre.length + 1) = [] := List.drop_eq_nil_of_le (by simp)
          rw [e3] at this
          rw [e1, e2]
          simpa using this
    · simp at c; omega
theorem c75 : COk cfg 75 splitC := by
  refine cok_pure pf75 fun vs h K ht => ?_
  obtain ⟨s, sep, hl, h34, h92, rfl, hk⟩ := ht
  refine ⟨_, hk, t75a (ctab_ok (ctab_cons c100 ctab_nil)) (ifP_intro (fun c => absurd (ueq 34 rfl c) h34) fun _ => ifP_intro (fun c => absurd (ueq 92 rfl c) h92) fun _ => ?_)⟩
  exact loop75 h34 h92 s [] 0 [] false false hl (Nat.le_refl _) (Nat.le_refl _)

/-! What stands in quotes -/
def bl (l : List Bool) : List AV := l.map AV.bool
def cellsQ (D : List Bool) (k : Nat) : List AV := bl D ++ List.replicate k (AV.bool false)
def bls (l : List Bool) : List (List AV) := l.map fun b => [AV.bool b]
theorem cellsQ_len (D : List Bool) (k : Nat) : (cellsQ D k).length = D.length + k := by simp [cellsQ, bl]
theorem cellsQ_set (D : List Bool) (k : Nat) {n : Nat} (h : n = D.length) : splice (cellsQ D (k + 1)) n [ofConst (Value.bool true)] = cellsQ (D ++ [true]) k := by
  unfold cellsQ
  rw [List.replicate_succ, splice_at (by rw [h]; simp [bl])]
  simp [bl, ofConst]
theorem cellsQ_keep (D : List Bool) (k : Nat) : cellsQ D (k + 1) = cellsQ (D ++ [false]) k := by
  unfold cellsQ
  rw [List.replicate_succ]
  simp [bl]
theorem strip_bools (b0 : Blk) (t : TypeId) (D : List Bool) {n : Nat} (hn : n = D.length) : stripR1 0 [b0, .mem t (cellsQ D 0)] (.osl 1 0 n 1) = .sl 1 (bls D) none := by
  subst hn
  have e : cellsQ D 0 = bl D := by simp [cellsQ]
  have e2 : List.take D.length (List.drop 0 (bl D)) = bl D := by rw [List.drop_zero, List.take_of_length_le (by simp [bl])]
  have e3 : (bl D).all atomV = true := by
    rw [List.all_eq_true]
    intro x hx
    obtain ⟨b, _, rfl⟩ := List.mem_map.1 hx
    rfl
  show outS [b0, .mem t (cellsQ D 0)] 1 0 D.length 1 = _
  unfold outS
  rw [e]
  show (bif Nat.beq 1 1 && (List.take D.length (List.drop 0 (bl D))).all atomV then AV.sl 1 ((List.take D.length (List.drop 0 (bl D))).map fun c => [c]) none else AV.top) = _
  rw [e2, e3]
  simp [bl, bls]
def quoV (D : List Bool) (o : Bool) : AV := .tup [.sl 1 (bls D) none, .bool (!o)]
theorem loop101 : ∀ (n : Nat) (r : List UInt8), r.length ≤ n → ∀ (pre : List UInt8) (D : List Bool), (pre ++ r).length ≤ lim → D.length = pre.length →
    ToEnd cfg 101 (bodyOf Tryd.f101) (RetIs Tryd.prog Tryd.f101 (quoV (D ++ quoG false false r) (opnG false false r))) [.code [0, 0, 1, 1, 1], .block 0, .code [1, 1, 1, 1]] .normal
      [(0, true, .str (pre ++ r)), (4, true, .osl 1 0 (pre ++ r).length 1), (5, true, .int .i64 pre.length)] [.grow 0 1 4, .mem 4 (cellsQ D r.length)] ∧
    ToEnd cfg 101 (bodyOf Tryd.f101) (RetIs Tryd.prog Tryd.f101 (quoV (D ++ quoG true false r) (opnG true false r))) [.code [0, 0, 1, 1, 1, 0, 1, 0, 0, 0, 1, 1, 1], .block 2, .code [1, 1, 1, 1, 0, 1, 0, 0, 0, 1, 1, 1], .block 1, .loop [0, 0, 1, 1, 1] 2, .block 0, .code [1, 1, 1, 1]] .normal
      [(0, true, .str (pre ++ r)), (4, true, .osl 1 0 (pre ++ r).length 1), (5, true, .int .i64 pre.length)] [.grow 0 1 4, .mem 4 (cellsQ D r.length)] := by
  have hT := ctab_ok (C := cfg) ctab_nil
  intro n
  induction n with
  | zero =>
    intro r hr pre D hl hD
    obtain rfl : r = [] := List.eq_nil_of_length_eq_zero (by omega)
    refine ⟨t101b hT (ifP_intro (fun c => ?_) fun _ => ?_), t101c hT (ifP_intro (fun c => ?_) fun _ => ifP_intro (fun _ => ?_) fun c => ?_)⟩
    · simp at c
    · rw [List.length_nil, strip_bools _ _ _ (by simp [hD])]; simp [quoV, quoG, opnG]
    · simp at c
    · rw [List.length_nil, strip_bools _ _ _ (by simp [hD])]; simp [quoV, quoG, opnG]
    · simp at c
  | succ n ih =>
    intro r hr pre D hl hD
    cases r with
    | nil => exact ih [] (by simp) pre D hl hD
    | cons x r =>
      have hlen : pre.length ≤ lim := by simp at hl; omega
      have hr' : r.length ≤ n := by simpa using hr
      have hin : inR (pre.length : Int) (pre ++ x :: r).length = true := inR_nat (by simp)
      have hin' : (inR (pre.length : Int) (pre ++ x :: r).length && true && true) = true := by rw [hin]; rfl
      have hb : Nat.ble (0 + Int.toNat (pre.length : Int) * 1 + 1) (cellsQ D (x :: r).length).length = true := Nat.ble_eq_true_of_le (by rw [cellsQ_len, hD]; simp)
      have hi : 0 + Int.toNat (pre.length : Int) * 1 = D.length := by rw [hD]; simp
      have hset : splice (cellsQ D (x :: r).length) (0 + Int.toNat (pre.length : Int) * 1) [ofConst (Value.bool true)] = cellsQ (D ++ [true]) r.length := cellsQ_set D r.length hi
      have nextO := fun (b : Bool) => (ih r hr' (pre ++ [x]) (D ++ [b]) (by simpa using hl) (by simp [hD])).1
      have nextI := (ih r hr' (pre ++ [x]) (D ++ [true]) (by simpa using hl) (by simp [hD])).2
      constructor
      · refine t101b hT (ifP_intro (fun _ => gAnd_intro hin ?_) fun c => ?_)
        · rw [at_pre]
          refine ifP_intro (fun b => ?_) fun b => gAnd_intro hin' (gAnd_intro hb ?_)
          · have hx : x ≠ 34 := unq 34 rfl b
            rw [wrap_n hlen, show (x :: r).length = r.length + 1 from rfl, cellsQ_keep]
            have e1 : quoG false false (x :: r) = false :: quoG false false r := by rw [quoG, if_neg (by simp), if_neg (by simp), if_neg hx]
            have e2 : opnG false false (x :: r) = opnG false false r := by rw [opnG, if_neg (by simp), if_neg (by simp), if_neg hx]
            rw [e1, e2]
            simpa using nextO false
          · have hx : x = 34 := unq' 34 rfl b
            rw [hset, wrap_n hlen]
            have e1 : quoG false false (x :: r) = true :: quoG true false r := by rw [quoG, if_neg (by simp), if_neg (by simp), if_pos hx]; rfl
            have e2 : opnG false false (x :: r) = opnG true false r := by rw [opnG, if_neg (by simp), if_neg (by simp), if_pos hx]; rfl
            rw [e1, e2]
            simpa using nextI
        · simp at c; omega
      · refine t101c hT (ifP_intro (fun _ => gAnd_intro hin ?_) fun c => ?_)
        · rw [at_pre]
          refine ifP_intro (fun b => gAnd_intro hin' (gAnd_intro hb (gAnd_intro hin (ifP_intro (fun d => ifP_intro (fun e => ?_) fun e => ?_) fun d => ?_)))) fun b => ifP_intro (fun c => ?_) fun c => gAnd_intro hin' (gAnd_intro hb ?_)
          · have hx : x = 92 := ueq 92 rfl d
            have h34 : x ≠ 34 := unq 34 rfl b
            rw [wrap_n hlen] at e ⊢
            cases r with
            | nil => simp at e
            | cons y r =>
              have hw : ((pre.length + 1 : Nat) : Int) = ((pre ++ [x]).length : Nat) := by simp
              have hi2 : 0 + Int.toNat ((pre.length + 1 : Nat) : Int) * 1 = (D ++ [true]).length := by simp [hD]
              have h2l : pre.length + 1 ≤ lim := by simp at hl; omega
              rw [hset]
              refine gAnd_intro (by rw [inR_nat (by simp)]; rfl) (gAnd_intro (Nat.ble_eq_true_of_le (by rw [cellsQ_len]; simp [hD])) ?_)
              rw [show (y :: r).length = r.length + 1 from rfl, cellsQ_set _ _ hi2, wrap_n h2l]
              have := (ih r (by simp at hr'; omega) (pre ++ [x, y]) (D ++ [true, true]) (by simpa using hl) (by simp [hD])).2
              have e1 : quoG true false (x :: y :: r) = true :: true :: quoG true false r := by rw [quoG, if_neg (by simp), if_pos ⟨rfl, hx⟩, quoG, if_pos rfl]
              have e2 : opnG true false (x :: y :: r) = opnG true false r := by rw [opnG, if_neg (by simp), if_pos ⟨rfl, hx⟩, opnG, if_pos rfl]
              have e3 : (((pre ++ [x, y]).length : Nat) : Int) = ((pre.length + 1 + 1 : Nat) : Int) := by simp; omega
              rw [e3] at this
              rw [e1, e2]
              simpa using this
          · have hx : x = 92 := ueq 92 rfl d
            rw [wrap_n hlen] at e ⊢
            cases r with
            | cons y r => simp at e; omega
            | nil =>
              rw [hset]
              have e1 : quoG true false [x] = [true] := by rw [hx]; rfl
              have e2 : opnG true false [x] = opnG true false [] := by rw [hx]; rfl
              rw [e1, e2]
              have := nextI
              simpa [quoG] using this
          · have hx : x ≠ 92 := une 92 rfl d
            have h34 : x ≠ 34 := unq 34 rfl b
            rw [hset, wrap_n hlen]
            have e1 : quoG true false (x :: r) = true :: quoG true false r := by rw [quoG, if_neg (by simp), if_neg (fun h => hx h.2), if_neg h34]
            have e2 : opnG true false (x :: r) = opnG true false r := by rw [opnG, if_neg (by simp), if_neg (fun h => hx h.2), if_neg h34]
            rw [e1, e2]
            simpa using nextI
          · simp at c; omega
          · have hx : x = 34 := unq' 34 rfl b
            rw [hset, wrap_n hlen]
            have e1 : quoG true false (x :: r) = true :: quoG false false r := by rw [quoG, if_neg (by simp), if_neg (by rw [hx]; simp), if_pos hx]; rfl
            have e2 : opnG true false (x :: r) = opnG false false r := by rw [opnG, if_neg (by simp), if_neg (by rw [hx]; simp), if_pos hx]; rfl
            rw [e1, e2]
            simpa using nextO true
        · simp at c; omega
theorem c101 : COk cfg 101 quotC := by
  refine cok_pure pf101 fun vs h K ht => ?_
  obtain ⟨s, hl, rfl, hk⟩ := ht
  refine ⟨_, hk, t101a (ctab_ok ctab_nil) (gAnd_intro ?_ ?_)⟩
  · rw [decide_eq_true rfl, decide_eq_true (by unfold lim at hl; omega), decide_eq_true (by unfold lim at hl; omega)]; rfl
  · exact (loop101 s.length s (Nat.le_refl _) [] [] hl rfl).1

/-! The document's pieces -/
theorem getE_bls (D r : List Bool) (b : Bool) {n : Nat} (h : n = D.length) : getE (bls (D ++ b :: r)) (n : Int) = [.bool b] := by
  subst h
  unfold getE bls
  simp
theorem low_bls (n : Nat) (l : List Bool) : lowVss n (bls l) = true := lowss_pure n _ fun x hx => by
  obtain ⟨b, _, rfl⟩ := List.mem_map.1 hx
  rfl
theorem loop76e {sep : UInt8} {s : List UInt8} (hs : s.length ≤ lim) (e6 : List (List AV)) (k a : Int) (acc : List (List UInt8)) (hk : (s.length : Int) < k) :
    ToEnd cfg 76 (bodyOf Tryd.f76) (RetIs Tryd.prog Tryd.f76 (ansV (splitEnd false acc))) [.code [0, 1, 0, 1, 1, 1, 1, 1, 1], .block 0, .code [1, 1, 1, 1, 1, 1, 1]] .normal
      [(0, true, .str s), (1, true, .int .u8 (sep.toNat : Nat)), (6, true, .sl 1 e6 none), (8, true, .sl 1 (encS acc) (some 1)), (9, true, .int .i64 a), (10, true, .int .i64 k)] [.grow 0 1 9, .grow acc.length 1 9] := by
  have hT : TabOk cfg (ctab [(101, quotC), (92, trimC)]) := ctab_ok (ctab_cons c101 (ctab_cons c92 ctab_nil))
  refine t76b hT (ifP_intro (fun c => ?_) fun _ => ifP_intro (fun c => ?_) fun c => ?_)
  · simp at c; omega
  · rw [encS_len] at c
    simp only [gt_iff_lt, decide_eq_true_eq] at c
    unfold splitEnd
    rw [if_neg (by simp), if_pos (by omega)]; rfl
  · rw [encS_len] at c
    simp only [gt_iff_lt, decide_eq_false_iff_not] at c
    unfold splitEnd
    rw [if_neg (by simp), if_neg (by omega), stripss_encS]; rfl
theorem loop76 {sep : UInt8} : ∀ (r pre : List UInt8) (fr D : List Bool) (a : Nat) (acc : List (List UInt8)), (pre ++ r).length ≤ lim → D.length = pre.length → fr.length = r.length → a ≤ pre.length → acc.length ≤ pre.length →
    ToEnd cfg 76 (bodyOf Tryd.f76) (RetIs Tryd.prog Tryd.f76 (ansV (splitEnd false (acc ++ refG sep (pre.drop a) r fr)))) [.code [0, 1, 0, 1, 1, 1, 1, 1, 1], .block 0, .code [1, 1, 1, 1, 1, 1, 1]] .normal
      [(0, true, .str (pre ++ r)), (1, true, .int .u8 (sep.toNat : Nat)), (6, true, .sl 1 (bls (D ++ fr)) none), (8, true, .sl 1 (encS acc) (some 1)), (9, true, .int .i64 a), (10, true, .int .i64 pre.length)] [.grow 0 1 9, .grow acc.length 1 9] := by
  have hT : TabOk cfg (ctab [(101, quotC), (92, trimC)]) := ctab_ok (ctab_cons c101 (ctab_cons c92 ctab_nil))
  intro r
  induction r with
  | nil =>
    intro pre fr D a acc hl hD hf ha hc
    have hlt : ((pre.drop a).length : Nat) ≤ 10000000 := by unfold lim at hl; simp at hl ⊢; omega
    have hcut : cutL (pre ++ []) (some (a : Int)) (some (pre.length : Int)) = pre.drop a := by simp [cutL]
    have hlen : pre.length ≤ lim := by simpa using hl
    refine t76b hT (ifP_intro (fun _ => ifP_intro (fun d => ?_) fun _ => gAnd_intro ?_ ⟨pre.drop a, hlt, by rw [hcut], ifP_intro (fun q => gAnd_intro ?_ (gAnd_intro ?_ ?_)) fun q => gAnd_intro ?_ ?_⟩) fun c => ?_)
    · simp at d
    · simp [cutOb]; omega
    · rw [encS_len, tag_ok rfl, decide_eq_true (by unfold lim at hlen; omega)]; rfl
    · rw [low_bls, encS_one, low_encS]; rfl
    · rw [encS_one, encS_len, wrap_n hlen]
      have := loop76e (sep := sep) hl (bls (D ++ fr)) ((pre.length + 1 : Nat) : Int) ((pre.length + 1 : Nat) : Int) (acc ++ [trB (pre.drop a)]) (by simp; omega)
      have e : refG sep (pre.drop a) [] fr = [trB (pre.drop a)] := keepP_some q
      rw [e]
      simpa using this
    · rw [low_bls, low_encS]; rfl
    · rw [wrap_n hlen]
      have := loop76e (sep := sep) hl (bls (D ++ fr)) ((pre.length + 1 : Nat) : Int) ((pre.length + 1 : Nat) : Int) acc (by simp; omega)
      have e : refG sep (pre.drop a) [] fr = [] := keepP_none q
      rw [e, List.append_nil acc]
      exact this
    · simp at c
  | cons x r ih =>
    intro pre fr D a acc hl hD hf ha hc
    obtain ⟨f, fr, rfl⟩ : ∃ f fr', fr = f :: fr' := by cases fr with | nil => simp at hf | cons f fr => exact ⟨f, fr, rfl⟩
    have hlen : pre.length ≤ lim := by simp at hl; omega
    have hlt : ((pre.drop a).length : Nat) ≤ 10000000 := by unfold lim at hlen; simp; omega
    have hcut : cutL (pre ++ x :: r) (some (a : Int)) (some (pre.length : Int)) = pre.drop a := by simp [cutL]
    have hin : inR (pre.length : Int) (pre ++ x :: r).length = true := inR_nat (by simp)
    have low : (lowVss 2 (bls (D ++ f :: fr)) && true && (lowVss 2 (encS acc) && true && true) && true) = true := by rw [low_bls, low_encS]; rfl
    have go : (x ≠ sep ∨ f = true) → ToEnd cfg 76 (bodyOf Tryd.f76) (RetIs Tryd.prog Tryd.f76 (ansV (splitEnd false (acc ++ refG sep (pre.drop a) (x :: r) (f :: fr))))) [.code [0, 1, 0, 1, 1, 1, 1, 1, 1], .block 0, .code [1, 1, 1, 1, 1, 1, 1]] .normal
      [(0, true, .str (pre ++ x :: r)), (1, true, .int .u8 (sep.toNat : Nat)), (6, true, .sl 1 (bls (D ++ f :: fr)) none), (8, true, .sl 1 (encS acc) (some 1)), (9, true, .int .i64 a), (10, true, .int .i64 (IntKind.wrap .i64 ((pre.length : Int) + 1)))] [.grow 0 1 9, .grow acc.length 1 9] := fun h => by
      rw [refG, if_pos h, wrap_n hlen]
      have := ih (pre ++ [x]) fr (D ++ [f]) a acc (by simpa using hl) (by simp [hD]) (by simpa using hf) (by simp; omega) (by simp; omega)
      rw [drop_snoc x ha] at this
      simpa using this
    refine t76b hT (ifP_intro (fun _ => ifP_intro (fun _ => gAnd_intro hin ?_) fun d => ?_) fun c => ?_)
    · rw [at_pre]
      refine ifP_intro (fun b => gAnd_intro low (go (.inl (unq sep rfl b)))) fun b => gAnd_intro ?_ ⟨f, getE_bls _ _ _ hD.symm, ifP_intro (fun c => gAnd_intro low (go (.inr c))) fun c => gAnd_intro ?_ ⟨pre.drop a, hlt, by rw [hcut], ifP_intro (fun q => gAnd_intro ?_ (gAnd_intro ?_ ?_)) fun q => gAnd_intro low ?_⟩⟩
      · rw [inR_nat (by simp [bls, hD])]; rfl
      · simp [cutOb]; omega
      · rw [encS_len, tag_ok rfl, decide_eq_true (by unfold lim at hlen; omega)]; rfl
      · rw [low_bls, encS_one, low_encS]; rfl
      · rw [encS_one, encS_len, wrap_n hlen]
        have hx : x = sep := unq' sep rfl b
        rw [refG, if_neg (by rintro (h | h); exact h hx; rw [c] at h; cases h), keepP_some q]
        have := ih (pre ++ [x]) fr (D ++ [f]) (pre.length + 1) (acc ++ [trB (pre.drop a)]) (by simpa using hl) (by simp [hD]) (by simpa using hf) (by simp) (by simp; omega)
        have e3 : (pre ++ [x]).drop (pre.length + 1) = [] := List.drop_eq_nil_of_le (by simp)
        rw [e3] at this
        simpa using this
      · rw [wrap_n hlen]
        have hx : x = sep := unq' sep rfl b
        rw [refG, if_neg (by rintro (h | h); exact h hx; rw [c] at h; cases h), keepP_none q, List.nil_append]
        have := ih (pre ++ [x]) fr (D ++ [f]) (pre.length + 1) acc (by simpa using hl) (by simp [hD]) (by simpa using hf) (by simp) (by simp; omega)
        have e3 : (pre ++ [x]).drop (pre.length + 1) = [] := List.drop_eq_nil_of_le (by simp)
        rw [e3] at this
        simpa using this
    · simp at d; omega
    · simp at c; omega
theorem c76 : COk cfg 76 splitC := by
  have hT : TabOk cfg (ctab [(101, quotC), (92, trimC)]) := ctab_ok (ctab_cons c101 (ctab_cons c92 ctab_nil))
  refine cok_pure pf76 fun vs h K ht => ?_
  obtain ⟨s, sep, hl, h34, h92, rfl, hk⟩ := ht
  refine ⟨_, hk, t76a hT (ifP_intro (fun c => absurd (ueq 34 rfl c) h34) fun _ => ifP_intro (fun c => absurd (ueq 92 rfl c) h92) fun _ => ⟨s, hl, rfl, ifP_intro (fun o => ?_) fun o => ?_⟩)⟩
  · have ho : opnG false false s = true := by simpa using o
    unfold splitS
    rw [if_pos ho]; rfl
  · have ho : opnG false false s = false := by simpa using o
    have := loop76 (sep := sep) s [] (quoG false false s) [] 0 [] hl rfl (quoG_len _ _ _) (Nat.le_refl _) (Nat.le_refl _)
    have e : refG sep ([].drop 0) s (quoG false false s) = splG sep [] false false s := refG_eq h34 h92 s [] false false (by simp)
    rw [e] at this
    have e2 : splitS sep s = splitEnd false ([] ++ splG sep [] false false s) := by
      unfold splitS splitEnd
      rw [ho]; rfl
    rw [e2]
    exact this
end Go.Proofs.YtnncfdlpogjlkaaDoor
end
