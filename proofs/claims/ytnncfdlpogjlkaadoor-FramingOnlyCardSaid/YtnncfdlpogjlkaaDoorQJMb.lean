/-
  Runs of functions of lists of texts, printed by a home tool; each is the kernel's word.
  Lists of texts: small letters, blanks, values of a name: the functions keep to their contracts.
  Lists of texts: values of a name, numbers, the same fields, few of them: the functions keep to their contracts.
-/
import Derived.Test.YtnncfdlpogjlkaaDoorQCfg
import Derived.Test.YtnncfdlpogjlkaaDoorQJMa
section
namespace Go.Proofs.YtnncfdlpogjlkaaDoor
open Go.Ai Go
set_option maxRecDepth 100000
set_option linter.unusedVariables false
theorem t58a {v : AV} {s : List UInt8} (hT : TabOk cfg (ctab [])) (H :
    gAnd (Nat.ble (List.length s) 9223372036854775807) (ToEnd cfg 58 (bodyOf Tryd.f58) (RetIs Tryd.prog Tryd.f58 v) [Fm.code [0, 1, 0, 1, 1], Fm.block 0, Fm.code [1, 1, 1]] XT.normal [(3, true, AV.osl 0 0 (List.length s) 1), (8, true, AV.int IntKind.i64 (↑(List.length s) : Int)), (9, true, AV.int IntKind.i64 0)] [Blk.mem 5 (List.map (fun (b : UInt8) ↦ AV.int IntKind.u8 (↑(UInt8.toNat b) : Int)) s)])) :
    ToEnd cfg 58 (bodyOf Tryd.f58) (RetIs Tryd.prog Tryd.f58 v) ([.code []]) .normal ([(0, true, .str s)]) ([]) := by
  have e : unr cfg 58 (bodyOf Tryd.f58) (ctab []) ⟨[[0, 1, 0, 1, 1]], [([0, 1, 0, 0, 1, 1, 0, 0, 1, 0, 1, 1], 3, [.int .u8]), ([0, 1, 0, 0, 1, 1, 0, 0, 1, 0, 1, 1], 9, [.int .u8]), ([0, 1, 1, 0, 0, 1, 1, 0, 0, 1, 0, 1, 1], 3, [.int .u8])]⟩ (RetIs Tryd.prog Tryd.f58 v) 100000 ([.code []]) .normal ([(0, true, .str s)]) ([]) =
    (gAnd (Nat.ble (List.length s) 9223372036854775807) (ToEnd cfg 58 (bodyOf Tryd.f58) (RetIs Tryd.prog Tryd.f58 v) [Fm.code [0, 1, 0, 1, 1], Fm.block 0, Fm.code [1, 1, 1]] XT.normal [(3, true, AV.osl 0 0 (List.length s) 1), (8, true, AV.int IntKind.i64 (↑(List.length s) : Int)), (9, true, AV.int IntKind.i64 0)] [Blk.mem 5 (List.map (fun (b : UInt8) ↦ AV.int IntKind.u8 (↑(UInt8.toNat b) : Int)) s)])) := by kernel_rfl
  exact unr_ok hT 100000 _ _ _ _ (e.mpr H)

theorem t58b {v : AV} {N : Nat} {n i : Int} {cs : List AV} (hT : TabOk cfg (ctab [])) (H :
    ifP (decide (i < n)) (gAnd (inR i N && true && true) (∃ (z1 : Int), List.take 1 (List.drop (0 + Int.toNat i * 1) cs) = [AV.int IntKind.u8 z1] ∧ ifP (decide (z1 ≥ 65)) (gAnd (inR i N && true && true) (∃ (z2 : Int), List.take 1 (List.drop (0 + Int.toNat i * 1) cs) = [AV.int IntKind.u8 z2] ∧ ifP (decide (z2 ≤ 90)) (gAnd (inR i N && true && true) (∃ (z3 : Int), List.take 1 (List.drop (0 + Int.toNat i * 1) cs) = [AV.int IntKind.u8 z3] ∧ gAnd (inR i N && true && true) (gAnd (Nat.ble (0 + Int.toNat i * 1 + 1) (List.length cs)) (ToEnd cfg 58 (bodyOf Tryd.f58) (RetIs Tryd.prog Tryd.f58 v) [Fm.code [0, 1, 0, 1, 1], Fm.block 0, Fm.code [1, 1, 1]] XT.normal [(3, true, AV.osl 0 0 N 1), (8, true, AV.int IntKind.i64 n), (9, true, AV.int IntKind.i64 (IntKind.wrap IntKind.i64 (i + 1)))] [Blk.mem 5 (splice cs (0 + Int.toNat i * 1) [AV.int IntKind.u8 (IntKind.wrap IntKind.u8 (z3 + 32))])])))) (ToEnd cfg 58 (bodyOf Tryd.f58) (RetIs Tryd.prog Tryd.f58 v) [Fm.code [0, 1, 0, 1, 1], Fm.block 0, Fm.code [1, 1, 1]] XT.normal [(3, true, AV.osl 0 0 N 1), (8, true, AV.int IntKind.i64 n), (9, true, AV.int IntKind.i64 (IntKind.wrap IntKind.i64 (i + 1)))] [Blk.mem 5 cs]))) (ToEnd cfg 58 (bodyOf Tryd.f58) (RetIs Tryd.prog Tryd.f58 v) [Fm.code [0, 1, 0, 1, 1], Fm.block 0, Fm.code [1, 1, 1]] XT.normal [(3, true, AV.osl 0 0 N 1), (8, true, AV.int IntKind.i64 n), (9, true, AV.int IntKind.i64 (IntKind.wrap IntKind.i64 (i + 1)))] [Blk.mem 5 cs]))) (gAnd (cellsB (List.take N (List.drop 0 cs))) (AV.str (List.map cellV (List.take N (List.drop 0 cs))) = v))) :
    ToEnd cfg 58 (bodyOf Tryd.f58) (RetIs Tryd.prog Tryd.f58 v) ([.code [0, 1, 0, 1, 1], .block 0, .code [1, 1, 1]]) .normal ([(3, true, .osl 0 0 N 1), (8, true, .int .i64 n), (9, true, .int .i64 i)]) ([.mem 5 cs]) := by
  have e : unr cfg 58 (bodyOf Tryd.f58) (ctab []) ⟨[[0, 1, 0, 1, 1]], [([0, 1, 0, 0, 1, 1, 0, 0, 1, 0, 1, 1], 3, [.int .u8]), ([0, 1, 0, 0, 1, 1, 0, 0, 1, 0, 1, 1], 9, [.int .u8]), ([0, 1, 1, 0, 0, 1, 1, 0, 0, 1, 0, 1, 1], 3, [.int .u8])]⟩ (RetIs Tryd.prog Tryd.f58 v) 100000 ([.code [0, 0, 1, 0, 1, 1], .loop [0, 1, 0, 1, 1] 1, .block 0, .code [1, 1, 1]]) .normal ([(3, true, .osl 0 0 N 1), (8, true, .int .i64 n), (9, true, .int .i64 i)]) ([.mem 5 cs]) =
    (ifP (decide (i < n)) (gAnd (inR i N && true && true) (∃ (z1 : Int), List.take 1 (List.drop (0 + Int.toNat i * 1) cs) = [AV.int IntKind.u8 z1] ∧ ifP (decide (z1 ≥ 65)) (gAnd (inR i N && true && true) (∃ (z2 : Int), List.take 1 (List.drop (0 + Int.toNat i * 1) cs) = [AV.int IntKind.u8 z2] ∧ ifP (decide (z2 ≤ 90)) (gAnd (inR i N && true && true) (∃ (z3 : Int), List.take 1 (List.drop (0 + Int.toNat i * 1) cs) = [AV.int IntKind.u8 z3] ∧ gAnd (inR i N && true && true) (gAnd (Nat.ble (0 + Int.toNat i * 1 + 1) (List.length cs)) (ToEnd cfg 58 (bodyOf Tryd.f58) (RetIs Tryd.prog Tryd.f58 v) [Fm.code [0, 1, 0, 1, 1], Fm.block 0, Fm.code [1, 1, 1]] XT.normal [(3, true, AV.osl 0 0 N 1), (8, true, AV.int IntKind.i64 n), (9, true, AV.int IntKind.i64 (IntKind.wrap IntKind.i64 (i + 1)))] [Blk.mem 5 (splice cs (0 + Int.toNat i * 1) [AV.int IntKind.u8 (IntKind.wrap IntKind.u8 (z3 + 32))])])))) (ToEnd cfg 58 (bodyOf Tryd.f58) (RetIs Tryd.prog Tryd.f58 v) [Fm.code [0, 1, 0, 1, 1], Fm.block 0, Fm.code [1, 1, 1]] XT.normal [(3, true, AV.osl 0 0 N 1), (8, true, AV.int IntKind.i64 n), (9, true, AV.int IntKind.i64 (IntKind.wrap IntKind.i64 (i + 1)))] [Blk.mem 5 cs]))) (ToEnd cfg 58 (bodyOf Tryd.f58) (RetIs Tryd.prog Tryd.f58 v) [Fm.code [0, 1, 0, 1, 1], Fm.block 0, Fm.code [1, 1, 1]] XT.normal [(3, true, AV.osl 0 0 N 1), (8, true, AV.int IntKind.i64 n), (9, true, AV.int IntKind.i64 (IntKind.wrap IntKind.i64 (i + 1)))] [Blk.mem 5 cs]))) (gAnd (cellsB (List.take N (List.drop 0 cs))) (AV.str (List.map cellV (List.take N (List.drop 0 cs))) = v))) := by kernel_rfl
  exact ends_round hT 100000 (by kernel_rfl) (e.mpr H)

theorem t35 {v : AV} {s x : List UInt8} (hT : TabOk cfg (ctab [(58, lowerB)])) (H :
    ∃ (s1 : List UInt8), List.length s1 ≤ 9223372036854775807 ∧ [AV.str s] = [AV.str s1] ∧ ∃ (s2 : List UInt8), List.length s2 ≤ 9223372036854775807 ∧ [AV.str x] = [AV.str s2] ∧ AV.bool (lowS s1 == lowS s2) = v) :
    ToEnd cfg 35 (bodyOf Tryd.f35) (RetIs Tryd.prog Tryd.f35 v) ([.code []]) .normal ([(0, true, .str s), (1, true, .str x)]) ([]) := by
  have e : unr cfg 35 (bodyOf Tryd.f35) (ctab [(58, lowerB)]) ⟨[], []⟩ (RetIs Tryd.prog Tryd.f35 v) 100000 ([.code []]) .normal ([(0, true, .str s), (1, true, .str x)]) ([]) =
    (∃ (s1 : List UInt8), List.length s1 ≤ 9223372036854775807 ∧ [AV.str s] = [AV.str s1] ∧ ∃ (s2 : List UInt8), List.length s2 ≤ 9223372036854775807 ∧ [AV.str x] = [AV.str s2] ∧ AV.bool (lowS s1 == lowS s2) = v) := by kernel_rfl
  exact unr_ok hT 100000 _ _ _ _ (e.mpr H)

theorem t68 {v : AV} {s : List UInt8} (hT : TabOk cfg (ctab [(66, trimSC)])) (H :
    ∃ (s1 : List UInt8), ∃ (cs2 : List UInt8), List.length s1 ≤ 10000000 ∧ List.length cs2 ≤ 100 ∧ (List.all cs2 fun (b : UInt8) ↦ Nat.blt (UInt8.toNat b) 128) = true ∧ [AV.str s, AV.str [32, 9]] = [AV.str s1, AV.str cs2] ∧ AV.str (Lib.trimS s1 cs2) = v) :
    ToEnd cfg 68 (bodyOf Tryd.f68) (RetIs Tryd.prog Tryd.f68 v) ([.code []]) .normal ([(0, true, .str s)]) ([]) := by
  have e : unr cfg 68 (bodyOf Tryd.f68) (ctab [(66, trimSC)]) ⟨[], []⟩ (RetIs Tryd.prog Tryd.f68 v) 100000 ([.code []]) .normal ([(0, true, .str s)]) ([]) =
    (∃ (s1 : List UInt8), ∃ (cs2 : List UInt8), List.length s1 ≤ 10000000 ∧ List.length cs2 ≤ 100 ∧ (List.all cs2 fun (b : UInt8) ↦ Nat.blt (UInt8.toNat b) 128) = true ∧ [AV.str s, AV.str [32, 9]] = [AV.str s1, AV.str cs2] ∧ AV.str (Lib.trimS s1 cs2) = v) := by kernel_rfl
  exact unr_ok hT 100000 _ _ _ _ (e.mpr H)

theorem t56a {v : AV} {s : List UInt8} (hT : TabOk cfg (ctab [])) (H :
    ToEnd cfg 56 (bodyOf Tryd.f56) (RetIs Tryd.prog Tryd.f56 v) [Fm.code [0, 1, 0, 1, 1], Fm.block 0, Fm.code [1, 1, 1]] XT.normal [(0, true, AV.str s), (3, true, AV.sl 1 [] (some 0)), (4, true, AV.int IntKind.i64 0)] [Blk.grow 0 1 5]) :
    ToEnd cfg 56 (bodyOf Tryd.f56) (RetIs Tryd.prog Tryd.f56 v) ([.code []]) .normal ([(0, true, .str s)]) ([]) := by
  have e : unr cfg 56 (bodyOf Tryd.f56) (ctab []) ⟨[[0, 1, 0, 1, 1]], []⟩ (RetIs Tryd.prog Tryd.f56 v) 100000 ([.code []]) .normal ([(0, true, .str s)]) ([]) =
    (ToEnd cfg 56 (bodyOf Tryd.f56) (RetIs Tryd.prog Tryd.f56 v) [Fm.code [0, 1, 0, 1, 1], Fm.block 0, Fm.code [1, 1, 1]] XT.normal [(0, true, AV.str s), (3, true, AV.sl 1 [] (some 0)), (4, true, AV.int IntKind.i64 0)] [Blk.grow 0 1 5]) := by kernel_rfl
  exact unr_ok hT 100000 _ _ _ _ (e.mpr H)

theorem t56b {v : AV}  {s0 : List UInt8} {e3 : List (List AV)} {i4 : Int} {g0 : Nat} (hT : TabOk cfg (ctab [])) (H :
    ifP (decide (i4 < (↑(List.length s0) : Int))) (gAnd (inR i4 (List.length s0)) (ifP (decide ((↑(UInt8.toNat (List.getD s0 (Int.toNat i4) 0)) : Int) ≥ 65)) (ifP (decide ((↑(UInt8.toNat (List.getD s0 (Int.toNat i4) 0)) : Int) ≤ 90)) (gAnd (tagOk [Blk.grow g0 1 5, Blk.grow 1 1 5] (List.length e3) 1 5 (some 0) && true && true && true && decide ((List.length e3 + 1) * 1 ≤ 140737488355328) && true && true) (gAnd (lowVss 1 (e3 ++ [[AV.int IntKind.u8 (IntKind.wrap IntKind.u8 ((↑(UInt8.toNat (List.getD s0 (Int.toNat i4) 0)) : Int) + 32))]]) && true && true && true) (ToEnd cfg 56 (bodyOf Tryd.f56) (RetIs Tryd.prog Tryd.f56 v) [Fm.code [0, 1, 0, 1, 1], Fm.block 0, Fm.code [1, 1, 1]] XT.normal [(0, true, AV.str s0), (3, true, AV.sl 1 (e3 ++ [[AV.int IntKind.u8 (IntKind.wrap IntKind.u8 ((↑(UInt8.toNat (List.getD s0 (Int.toNat i4) 0)) : Int) + 32))]]) (some 0)), (4, true, AV.int IntKind.i64 (IntKind.wrap IntKind.i64 (i4 + 1)))] [Blk.grow (List.length e3 + 1) 1 5]))) (gAnd (tagOk [Blk.grow g0 1 5, Blk.grow 1 1 5] (List.length e3) 1 5 (some 0) && true && true && true && decide ((List.length e3 + 1) * 1 ≤ 140737488355328) && true && true) (gAnd (lowVss 1 (e3 ++ [[AV.int IntKind.u8 (↑(UInt8.toNat (List.getD s0 (Int.toNat i4) 0)) : Int)]]) && true && true && true) (ToEnd cfg 56 (bodyOf Tryd.f56) (RetIs Tryd.prog Tryd.f56 v) [Fm.code [0, 1, 0, 1, 1], Fm.block 0, Fm.code [1, 1, 1]] XT.normal [(0, true, AV.str s0), (3, true, AV.sl 1 (e3 ++ [[AV.int IntKind.u8 (↑(UInt8.toNat (List.getD s0 (Int.toNat i4) 0)) : Int)]]) (some 0)), (4, true, AV.int IntKind.i64 (IntKind.wrap IntKind.i64 (i4 + 1)))] [Blk.grow (List.length e3 + 1) 1 5])))) (gAnd (tagOk [Blk.grow g0 1 5, Blk.grow 1 1 5] (List.length e3) 1 5 (some 0) && true && true && true && decide ((List.length e3 + 1) * 1 ≤ 140737488355328) && true && true) (gAnd (lowVss 1 (e3 ++ [[AV.int IntKind.u8 (↑(UInt8.toNat (List.getD s0 (Int.toNat i4) 0)) : Int)]]) && true && true && true) (ToEnd cfg 56 (bodyOf Tryd.f56) (RetIs Tryd.prog Tryd.f56 v) [Fm.code [0, 1, 0, 1, 1], Fm.block 0, Fm.code [1, 1, 1]] XT.normal [(0, true, AV.str s0), (3, true, AV.sl 1 (e3 ++ [[AV.int IntKind.u8 (↑(UInt8.toNat (List.getD s0 (Int.toNat i4) 0)) : Int)]]) (some 0)), (4, true, AV.int IntKind.i64 (IntKind.wrap IntKind.i64 (i4 + 1)))] [Blk.grow (List.length e3 + 1) 1 5]))))) (gAnd (rowsB e3) (AV.str (List.map rowV e3) = v))) :
    ToEnd cfg 56 (bodyOf Tryd.f56) (RetIs Tryd.prog Tryd.f56 v) ([.code [0, 1, 0, 1, 1], Fm.block 0, Fm.code [1, 1, 1]]) .normal ([(0, true, AV.str s0), (3, true, AV.sl 1 e3 (some 0)), (4, true, AV.int IntKind.i64 i4)]) ([Blk.grow g0 1 5]) := by
  have e : unr cfg 56 (bodyOf Tryd.f56) (ctab []) ⟨[[0, 1, 0, 1, 1]], []⟩ (RetIs Tryd.prog Tryd.f56 v) 100000 ([.code [0, 0, 1, 0, 1, 1], .loop [0, 1, 0, 1, 1] 1, Fm.block 0, Fm.code [1, 1, 1]]) .normal ([(0, true, AV.str s0), (3, true, AV.sl 1 e3 (some 0)), (4, true, AV.int IntKind.i64 i4)]) ([Blk.grow g0 1 5]) =
    (ifP (decide (i4 < (↑(List.length s0) : Int))) (gAnd (inR i4 (List.length s0)) (ifP (decide ((↑(UInt8.toNat (List.getD s0 (Int.toNat i4) 0)) : Int) ≥ 65)) (ifP (decide ((↑(UInt8.toNat (List.getD s0 (Int.toNat i4) 0)) : Int) ≤ 90)) (gAnd (tagOk [Blk.grow g0 1 5, Blk.grow 1 1 5] (List.length e3) 1 5 (some 0) && true && true && true && decide ((List.length e3 + 1) * 1 ≤ 140737488355328) && true && true) (gAnd (lowVss 1 (e3 ++ [[AV.int IntKind.u8 (IntKind.wrap IntKind.u8 ((↑(UInt8.toNat (List.getD s0 (Int.toNat i4) 0)) : Int) + 32))]]) && true && true && true) (ToEnd cfg 56 (bodyOf Tryd.f56) (RetIs Tryd.prog Tryd.f56 v) [Fm.code [0, 1, 0, 1, 1], Fm.block 0, Fm.code [1, 1, 1]] XT.normal [(0, true, AV.str s0), (3, true, AV.sl 1 (e3 ++ [[AV.int IntKind.u8 (IntKind.wrap IntKind.u8 ((↑(UInt8.toNat (List.getD s0 (Int.toNat i4) 0)) : Int) + 32))]]) (some 0)), (4, true, AV.int IntKind.i64 (IntKind.wrap IntKind.i64 (i4 + 1)))] [Blk.grow (List.length e3 + 1) 1 5]))) (gAnd (tagOk [Blk.grow g0 1 5, Blk.grow 1 1 5] (List.length e3) 1 5 (some 0) && true && true && true && decide ((List.length e3 + 1) * 1 ≤ 140737488355328) && true && true) (gAnd (lowVss 1 (e3 ++ [[AV.int IntKind.u8 (↑(UInt8.toNat (List.getD s0 (Int.toNat i4) 0)) : Int)]]) && true && true && true) (ToEnd cfg 56 (bodyOf Tryd.f56) (RetIs Tryd.prog Tryd.f56 v) [Fm.code [0, 1, 0, 1, 1], Fm.block 0, Fm.code [1, 1, 1]] XT.normal [(0, true, AV.str s0), (3, true, AV.sl 1 (e3 ++ [[AV.int IntKind.u8 (↑(UInt8.toNat (List.getD s0 (Int.toNat i4) 0)) : Int)]]) (some 0)), (4, true, AV.int IntKind.i64 (IntKind.wrap IntKind.i64 (i4 + 1)))] [Blk.grow (List.length e3 + 1) 1 5])))) (gAnd (tagOk [Blk.grow g0 1 5, Blk.grow 1 1 5] (List.length e3) 1 5 (some 0) && true && true && true && decide ((List.length e3 + 1) * 1 ≤ 140737488355328) && true && true) (gAnd (lowVss 1 (e3 ++ [[AV.int IntKind.u8 (↑(UInt8.toNat (List.getD s0 (Int.toNat i4) 0)) : Int)]]) && true && true && true) (ToEnd cfg 56 (bodyOf Tryd.f56) (RetIs Tryd.prog Tryd.f56 v) [Fm.code [0, 1, 0, 1, 1], Fm.block 0, Fm.code [1, 1, 1]] XT.normal [(0, true, AV.str s0), (3, true, AV.sl 1 (e3 ++ [[AV.int IntKind.u8 (↑(UInt8.toNat (List.getD s0 (Int.toNat i4) 0)) : Int)]]) (some 0)), (4, true, AV.int IntKind.i64 (IntKind.wrap IntKind.i64 (i4 + 1)))] [Blk.grow (List.length e3 + 1) 1 5]))))) (gAnd (rowsB e3) (AV.str (List.map rowV e3) = v))) := by kernel_rfl
  exact ends_round hT 100000 (by kernel_rfl) (e.mpr H)

theorem t92a {v : AV} {s : List UInt8} (hT : TabOk cfg (ctab [])) (H :
    ToEnd cfg 92 (bodyOf Tryd.f92) (RetIs Tryd.prog Tryd.f92 v) [Fm.code [0, 0, 1, 1], Fm.block 0, Fm.code [1, 1, 1]] XT.normal [(0, true, AV.str s), (3, true, AV.int IntKind.i64 0), (4, true, AV.int IntKind.i64 (↑(List.length s) : Int))] []) :
    ToEnd cfg 92 (bodyOf Tryd.f92) (RetIs Tryd.prog Tryd.f92 v) ([.code []]) .normal ([(0, true, .str s)]) ([]) := by
  have e : unr cfg 92 (bodyOf Tryd.f92) (ctab []) ⟨[[0, 0, 1, 1], [0, 0, 1, 1, 1]], []⟩ (RetIs Tryd.prog Tryd.f92 v) 100000 ([.code []]) .normal ([(0, true, .str s)]) ([]) =
    (ToEnd cfg 92 (bodyOf Tryd.f92) (RetIs Tryd.prog Tryd.f92 v) [Fm.code [0, 0, 1, 1], Fm.block 0, Fm.code [1, 1, 1]] XT.normal [(0, true, AV.str s), (3, true, AV.int IntKind.i64 0), (4, true, AV.int IntKind.i64 (↑(List.length s) : Int))] []) := by kernel_rfl
  exact unr_ok hT 100000 _ _ _ _ (e.mpr H)

theorem t92b {v : AV}  {s0 : List UInt8} {i3 : Int} {i4 : Int} (hT : TabOk cfg (ctab [])) (H :
    ifP (decide (i3 < i4)) (gAnd (inR i3 (List.length s0)) (ifP ((↑(UInt8.toNat (List.getD s0 (Int.toNat i3) 0)) : Int) == 32) (ToEnd cfg 92 (bodyOf Tryd.f92) (RetIs Tryd.prog Tryd.f92 v) [Fm.code [0, 0, 1, 1], Fm.block 0, Fm.code [1, 1, 1]] XT.normal [(0, true, AV.str s0), (3, true, AV.int IntKind.i64 (IntKind.wrap IntKind.i64 (i3 + 1))), (4, true, AV.int IntKind.i64 i4)] []) (gAnd (inR i3 (List.length s0)) (ifP ((↑(UInt8.toNat (List.getD s0 (Int.toNat i3) 0)) : Int) == 9) (ToEnd cfg 92 (bodyOf Tryd.f92) (RetIs Tryd.prog Tryd.f92 v) [Fm.code [0, 0, 1, 1], Fm.block 0, Fm.code [1, 1, 1]] XT.normal [(0, true, AV.str s0), (3, true, AV.int IntKind.i64 (IntKind.wrap IntKind.i64 (i3 + 1))), (4, true, AV.int IntKind.i64 i4)] []) (ToEnd cfg 92 (bodyOf Tryd.f92) (RetIs Tryd.prog Tryd.f92 v) [Fm.code [0, 0, 1, 1, 1], Fm.block 2, Fm.code [1, 1, 1, 1]] XT.normal [(0, true, AV.str s0), (3, true, AV.int IntKind.i64 i3), (4, true, AV.int IntKind.i64 i4)] []))))) (ToEnd cfg 92 (bodyOf Tryd.f92) (RetIs Tryd.prog Tryd.f92 v) [Fm.code [0, 0, 1, 1, 1], Fm.block 2, Fm.code [1, 1, 1, 1]] XT.normal [(0, true, AV.str s0), (3, true, AV.int IntKind.i64 i3), (4, true, AV.int IntKind.i64 i4)] [])) :
    ToEnd cfg 92 (bodyOf Tryd.f92) (RetIs Tryd.prog Tryd.f92 v) ([.code [0, 0, 1, 1], Fm.block 0, Fm.code [1, 1, 1]]) .normal ([(0, true, AV.str s0), (3, true, AV.int IntKind.i64 i3), (4, true, AV.int IntKind.i64 i4)]) ([]) := by
  have e : unr cfg 92 (bodyOf Tryd.f92) (ctab []) ⟨[[0, 0, 1, 1], [0, 0, 1, 1, 1]], []⟩ (RetIs Tryd.prog Tryd.f92 v) 100000 ([.code [0, 0, 0, 1, 1], .loop [0, 0, 1, 1] 0, Fm.block 0, Fm.code [1, 1, 1]]) .normal ([(0, true, AV.str s0), (3, true, AV.int IntKind.i64 i3), (4, true, AV.int IntKind.i64 i4)]) ([]) =
    (ifP (decide (i3 < i4)) (gAnd (inR i3 (List.length s0)) (ifP ((↑(UInt8.toNat (List.getD s0 (Int.toNat i3) 0)) : Int) == 32) (ToEnd cfg 92 (bodyOf Tryd.f92) (RetIs Tryd.prog Tryd.f92 v) [Fm.code [0, 0, 1, 1], Fm.block 0, Fm.code [1, 1, 1]] XT.normal [(0, true, AV.str s0), (3, true, AV.int IntKind.i64 (IntKind.wrap IntKind.i64 (i3 + 1))), (4, true, AV.int IntKind.i64 i4)] []) (gAnd (inR i3 (List.length s0)) (ifP ((↑(UInt8.toNat (List.getD s0 (Int.toNat i3) 0)) : Int) == 9) (ToEnd cfg 92 (bodyOf Tryd.f92) (RetIs Tryd.prog Tryd.f92 v) [Fm.code [0, 0, 1, 1], Fm.block 0, Fm.code [1, 1, 1]] XT.normal [(0, true, AV.str s0), (3, true, AV.int IntKind.i64 (IntKind.wrap IntKind.i64 (i3 + 1))), (4, true, AV.int IntKind.i64 i4)] []) (ToEnd cfg 92 (bodyOf Tryd.f92) (RetIs Tryd.prog Tryd.f92 v) [Fm.code [0, 0, 1, 1, 1], Fm.block 2, Fm.code [1, 1, 1, 1]] XT.normal [(0, true, AV.str s0), (3, true, AV.int IntKind.i64 i3), (4, true, AV.int IntKind.i64 i4)] []))))) (ToEnd cfg 92 (bodyOf Tryd.f92) (RetIs Tryd.prog Tryd.f92 v) [Fm.code [0, 0, 1, 1, 1], Fm.block 2, Fm.code [1, 1, 1, 1]] XT.normal [(0, true, AV.str s0), (3, true, AV.int IntKind.i64 i3), (4, true, AV.int IntKind.i64 i4)] [])) := by kernel_rfl
  exact ends_round hT 100000 (by kernel_rfl) (e.mpr H)

theorem t92c {v : AV}  {s0 : List UInt8} {i3 : Int} {i4 : Int} (hT : TabOk cfg (ctab [])) (H :
    ifP (decide (i4 > i3)) (gAnd (inR (IntKind.wrap IntKind.i64 (i4 - 1)) (List.length s0)) (ifP ((↑(UInt8.toNat (List.getD s0 (Int.toNat (IntKind.wrap IntKind.i64 (i4 - 1))) 0)) : Int) == 32) (ToEnd cfg 92 (bodyOf Tryd.f92) (RetIs Tryd.prog Tryd.f92 v) [Fm.code [0, 0, 1, 1, 1], Fm.block 2, Fm.code [1, 1, 1, 1]] XT.normal [(0, true, AV.str s0), (3, true, AV.int IntKind.i64 i3), (4, true, AV.int IntKind.i64 (IntKind.wrap IntKind.i64 (i4 - 1)))] []) (gAnd (inR (IntKind.wrap IntKind.i64 (i4 - 1)) (List.length s0)) (ifP ((↑(UInt8.toNat (List.getD s0 (Int.toNat (IntKind.wrap IntKind.i64 (i4 - 1))) 0)) : Int) == 9) (ToEnd cfg 92 (bodyOf Tryd.f92) (RetIs Tryd.prog Tryd.f92 v) [Fm.code [0, 0, 1, 1, 1], Fm.block 2, Fm.code [1, 1, 1, 1]] XT.normal [(0, true, AV.str s0), (3, true, AV.int IntKind.i64 i3), (4, true, AV.int IntKind.i64 (IntKind.wrap IntKind.i64 (i4 - 1)))] []) (gAnd (cutOb (List.length s0) (some i3) (some i4)) (AV.str (cutL s0 (some i3) (some i4)) = v)))))) (gAnd (cutOb (List.length s0) (some i3) (some i4)) (AV.str (cutL s0 (some i3) (some i4)) = v))) :
    ToEnd cfg 92 (bodyOf Tryd.f92) (RetIs Tryd.prog Tryd.f92 v) ([.code [0, 0, 1, 1, 1], Fm.block 2, Fm.code [1, 1, 1, 1]]) .normal ([(0, true, AV.str s0), (3, true, AV.int IntKind.i64 i3), (4, true, AV.int IntKind.i64 i4)]) ([]) := by
  have e : unr cfg 92 (bodyOf Tryd.f92) (ctab []) ⟨[[0, 0, 1, 1], [0, 0, 1, 1, 1]], []⟩ (RetIs Tryd.prog Tryd.f92 v) 100000 ([.code [0, 0, 0, 1, 1, 1], .loop [0, 0, 1, 1, 1] 0, Fm.block 2, Fm.code [1, 1, 1, 1]]) .normal ([(0, true, AV.str s0), (3, true, AV.int IntKind.i64 i3), (4, true, AV.int IntKind.i64 i4)]) ([]) =
    (ifP (decide (i4 > i3)) (gAnd (inR (IntKind.wrap IntKind.i64 (i4 - 1)) (List.length s0)) (ifP ((↑(UInt8.toNat (List.getD s0 (Int.toNat (IntKind.wrap IntKind.i64 (i4 - 1))) 0)) : Int) == 32) (ToEnd cfg 92 (bodyOf Tryd.f92) (RetIs Tryd.prog Tryd.f92 v) [Fm.code [0, 0, 1, 1, 1], Fm.block 2, Fm.code [1, 1, 1, 1]] XT.normal [(0, true, AV.str s0), (3, true, AV.int IntKind.i64 i3), (4, true, AV.int IntKind.i64 (IntKind.wrap IntKind.i64 (i4 - 1)))] []) (gAnd (inR (IntKind.wrap IntKind.i64 (i4 - 1)) (List.length s0)) (ifP ((↑(UInt8.toNat (List.getD s0 (Int.toNat (IntKind.wrap IntKind.i64 (i4 - 1))) 0)) : Int) == 9) (ToEnd cfg 92 (bodyOf Tryd.f92) (RetIs Tryd.prog Tryd.f92 v) [Fm.code [0, 0, 1, 1, 1], Fm.block 2, Fm.code [1, 1, 1, 1]] XT.normal [(0, true, AV.str s0), (3, true, AV.int IntKind.i64 i3), (4, true, AV.int IntKind.i64 (IntKind.wrap IntKind.i64 (i4 - 1)))] []) (gAnd (cutOb (List.length s0) (some i3) (some i4)) (AV.str (cutL s0 (some i3) (some i4)) = v)))))) (gAnd (cutOb (List.length s0) (some i3) (some i4)) (AV.str (cutL s0 (some i3) (some i4)) = v))) := by kernel_rfl
  exact ends_round hT 100000 (by kernel_rfl) (e.mpr H)

theorem t54a {v : AV} {e : List (List AV)} {sz : Nat} {nm : List UInt8} (hT : TabOk cfg (ctab [(56, lowerC)])) (H :
    ToEnd cfg 54 (bodyOf Tryd.f54) (RetIs Tryd.prog Tryd.f54 v) [Fm.code [0, 1, 0, 1, 1], Fm.block 0, Fm.code [1, 1, 1]] XT.normal [(0, true, AV.sl sz e none), (1, true, AV.str nm), (5, true, AV.sl 1 [] (some 1)), (6, true, AV.int IntKind.i64 0)] [Blk.grow 0 1 9, Blk.grow 0 1 9]) :
    ToEnd cfg 54 (bodyOf Tryd.f54) (RetIs Tryd.prog Tryd.f54 v) ([.code []]) .normal ([(0, true, .sl sz e none), (1, true, .str nm)]) ([]) := by
  have e : unr cfg 54 (bodyOf Tryd.f54) (ctab [(56, lowerC)]) ⟨[[0, 1, 0, 1, 1]], [([0, 0, 0, 1, 0, 0, 1, 0, 1, 1], 2, [.str, .str]), ([0, 1, 0, 0, 1, 0, 0, 1, 0, 1, 1], 3, [.str, .str])]⟩ (RetIs Tryd.prog Tryd.f54 v) 100000 ([.code []]) .normal ([(0, true, .sl sz e none), (1, true, .str nm)]) ([]) =
    (ToEnd cfg 54 (bodyOf Tryd.f54) (RetIs Tryd.prog Tryd.f54 v) [Fm.code [0, 1, 0, 1, 1], Fm.block 0, Fm.code [1, 1, 1]] XT.normal [(0, true, AV.sl sz e none), (1, true, AV.str nm), (5, true, AV.sl 1 [] (some 1)), (6, true, AV.int IntKind.i64 0)] [Blk.grow 0 1 9, Blk.grow 0 1 9]) := by kernel_rfl
  exact unr_ok hT 100000 _ _ _ _ (e.mpr H)

theorem t54b {v : AV} {e : List (List AV)} {sz : Nat}  {s1 : List UInt8} {e5 : List (List AV)} {i6 : Int} {g0 : Nat} {g1 : Nat} (hT : TabOk cfg (ctab [(56, lowerC)])) (H :
    ifP (decide (i6 < (↑(List.length e) : Int))) (gAnd (inR i6 (List.length e) && Nat.beq sz 2 && Nat.ble 1 sz) (∃ (s1_1 : List UInt8), ∃ (s2 : List UInt8), getE e i6 = [AV.str s1_1, AV.str s2] ∧ ∃ (s3 : List UInt8), List.length s3 ≤ 10000000 ∧ [AV.str s1_1] = [AV.str s3] ∧ ∃ (s4 : List UInt8), List.length s4 ≤ 10000000 ∧ [AV.str s1] = [AV.str s4] ∧ ifP (lowS s3 == lowS s4) (gAnd (inR i6 (List.length e) && Nat.beq sz 2 && Nat.ble 1 sz) (∃ (s5 : List UInt8), ∃ (s6 : List UInt8), getE e i6 = [AV.str s5, AV.str s6] ∧ gAnd (tagOk [Blk.grow g0 1 9, Blk.grow g1 1 9, Blk.grow 1 1 9] (List.length e5) 1 9 (some 1) && true && true && true && decide ((List.length e5 + 1) * 16 ≤ 140737488355328) && true && true) (gAnd (lowVss 2 e && true && (lowVss 2 (e5 ++ [[AV.str s6]]) && true && true) && true) (ToEnd cfg 54 (bodyOf Tryd.f54) (RetIs Tryd.prog Tryd.f54 v) [Fm.code [0, 1, 0, 1, 1], Fm.block 0, Fm.code [1, 1, 1]] XT.normal [(0, true, AV.sl sz e none), (1, true, AV.str s1), (5, true, AV.sl 1 (e5 ++ [[AV.str s6]]) (some 1)), (6, true, AV.int IntKind.i64 (IntKind.wrap IntKind.i64 (i6 + 1)))] [Blk.grow g0 1 9, Blk.grow (List.length e5 + 1) 1 9])))) (gAnd (lowVss 2 e && true && (lowVss 2 e5 && true && true) && true) (ToEnd cfg 54 (bodyOf Tryd.f54) (RetIs Tryd.prog Tryd.f54 v) [Fm.code [0, 1, 0, 1, 1], Fm.block 0, Fm.code [1, 1, 1]] XT.normal [(0, true, AV.sl sz e none), (1, true, AV.str s1), (5, true, AV.sl 1 e5 (some 1)), (6, true, AV.int IntKind.i64 (IntKind.wrap IntKind.i64 (i6 + 1)))] [Blk.grow g0 1 9, Blk.grow g1 1 9])))) (AV.sl 1 (stripss 0 [Blk.grow g0 1 9, Blk.grow g1 1 9] e5) none = v)) :
    ToEnd cfg 54 (bodyOf Tryd.f54) (RetIs Tryd.prog Tryd.f54 v) ([.code [0, 1, 0, 1, 1], Fm.block 0, Fm.code [1, 1, 1]]) .normal ([(0, true, AV.sl sz e none), (1, true, AV.str s1), (5, true, AV.sl 1 e5 (some 1)), (6, true, AV.int IntKind.i64 i6)]) ([Blk.grow g0 1 9, Blk.grow g1 1 9]) := by
  have e : unr cfg 54 (bodyOf Tryd.f54) (ctab [(56, lowerC)]) ⟨[[0, 1, 0, 1, 1]], [([0, 0, 0, 1, 0, 0, 1, 0, 1, 1], 2, [.str, .str]), ([0, 1, 0, 0, 1, 0, 0, 1, 0, 1, 1], 3, [.str, .str])]⟩ (RetIs Tryd.prog Tryd.f54 v) 100000 ([.code [0, 0, 1, 0, 1, 1], .loop [0, 1, 0, 1, 1] 2, Fm.block 0, Fm.code [1, 1, 1]]) .normal ([(0, true, AV.sl sz e none), (1, true, AV.str s1), (5, true, AV.sl 1 e5 (some 1)), (6, true, AV.int IntKind.i64 i6)]) ([Blk.grow g0 1 9, Blk.grow g1 1 9]) =
    (ifP (decide (i6 < (↑(List.length e) : Int))) (gAnd (inR i6 (List.length e) && Nat.beq sz 2 && Nat.ble 1 sz) (∃ (s1_1 : List UInt8), ∃ (s2 : List UInt8), getE e i6 = [AV.str s1_1, AV.str s2] ∧ ∃ (s3 : List UInt8), List.length s3 ≤ 10000000 ∧ [AV.str s1_1] = [AV.str s3] ∧ ∃ (s4 : List UInt8), List.length s4 ≤ 10000000 ∧ [AV.str s1] = [AV.str s4] ∧ ifP (lowS s3 == lowS s4) (gAnd (inR i6 (List.length e) && Nat.beq sz 2 && Nat.ble 1 sz) (∃ (s5 : List UInt8), ∃ (s6 : List UInt8), getE e i6 = [AV.str s5, AV.str s6] ∧ gAnd (tagOk [Blk.grow g0 1 9, Blk.grow g1 1 9, Blk.grow 1 1 9] (List.length e5) 1 9 (some 1) && true && true && true && decide ((List.length e5 + 1) * 16 ≤ 140737488355328) && true && true) (gAnd (lowVss 2 e && true && (lowVss 2 (e5 ++ [[AV.str s6]]) && true && true) && true) (ToEnd cfg 54 (bodyOf Tryd.f54) (RetIs Tryd.prog Tryd.f54 v) [Fm.code [0, 1, 0, 1, 1], Fm.block 0, Fm.code [1, 1, 1]] XT.normal [(0, true, AV.sl sz e none), (1, true, AV.str s1), (5, true, AV.sl 1 (e5 ++ [[AV.str s6]]) (some 1)), (6, true, AV.int IntKind.i64 (IntKind.wrap IntKind.i64 (i6 + 1)))] [Blk.grow g0 1 9, Blk.grow (List.length e5 + 1) 1 9])))) (gAnd (lowVss 2 e && true && (lowVss 2 e5 && true && true) && true) (ToEnd cfg 54 (bodyOf Tryd.f54) (RetIs Tryd.prog Tryd.f54 v) [Fm.code [0, 1, 0, 1, 1], Fm.block 0, Fm.code [1, 1, 1]] XT.normal [(0, true, AV.sl sz e none), (1, true, AV.str s1), (5, true, AV.sl 1 e5 (some 1)), (6, true, AV.int IntKind.i64 (IntKind.wrap IntKind.i64 (i6 + 1)))] [Blk.grow g0 1 9, Blk.grow g1 1 9])))) (AV.sl 1 (stripss 0 [Blk.grow g0 1 9, Blk.grow g1 1 9] e5) none = v)) := by kernel_rfl
  exact ends_round hT 100000 (by kernel_rfl) (e.mpr H)

theorem t20a {v : AV} {e : List (List AV)} {sz : Nat} {nm : List UInt8} (hT : TabOk cfg (ctab [(35, likeB)])) (H :
    ToEnd cfg 20 (bodyOf Tryd.f20) (RetIs Tryd.prog Tryd.f20 v) [Fm.code [0, 1, 0, 1], Fm.block 0, Fm.code [1, 1]] XT.normal [(1, true, AV.str nm), (4, true, AV.sl 1 [] (some 0)), (7, true, AV.sl sz e none), (8, true, AV.int IntKind.i64 (↑(List.length e) : Int)), (9, true, AV.int IntKind.i64 0)] [Blk.grow 0 1 9]) :
    ToEnd cfg 20 (bodyOf Tryd.f20) (RetIs Tryd.prog Tryd.f20 v) ([.code []]) .normal ([(0, true, .sl sz e none), (1, true, .str nm)]) ([]) := by
  have e : unr cfg 20 (bodyOf Tryd.f20) (ctab [(35, likeB)]) ⟨[[0, 1, 0, 1]], [([0, 0, 0, 1, 1, 0, 0, 1, 0, 1], 0, [.str, .str])]⟩ (RetIs Tryd.prog Tryd.f20 v) 100000 ([.code []]) .normal ([(0, true, .sl sz e none), (1, true, .str nm)]) ([]) =
    (ToEnd cfg 20 (bodyOf Tryd.f20) (RetIs Tryd.prog Tryd.f20 v) [Fm.code [0, 1, 0, 1], Fm.block 0, Fm.code [1, 1]] XT.normal [(1, true, AV.str nm), (4, true, AV.sl 1 [] (some 0)), (7, true, AV.sl sz e none), (8, true, AV.int IntKind.i64 (↑(List.length e) : Int)), (9, true, AV.int IntKind.i64 0)] [Blk.grow 0 1 9]) := by kernel_rfl
  exact unr_ok hT 100000 _ _ _ _ (e.mpr H)

theorem t20b {v : AV} {e : List (List AV)} {sz : Nat}  {s1 : List UInt8} {e4 : List (List AV)} {i8 : Int} {i9 : Int} {g0 : Nat} (hT : TabOk cfg (ctab [(35, likeB)])) (H :
    ifP (decide (i9 < i8)) (gAnd (inR i9 (List.length e) && Nat.beq sz 2 && Nat.ble 1 sz) (∃ (s1_1 : List UInt8), ∃ (s2 : List UInt8), getE e i9 = [AV.str s1_1, AV.str s2] ∧ ∃ (a3 : List UInt8), ∃ (b4 : List UInt8), List.length a3 ≤ 9223372036854775807 ∧ List.length b4 ≤ 9223372036854775807 ∧ [AV.str s1_1, AV.str s1] = [AV.str a3, AV.str b4] ∧ ifP (lowS a3 == lowS b4) (gAnd (tagOk [Blk.grow g0 1 9, Blk.mem 38 [AV.str s1_1, AV.str s2], Blk.grow 1 1 9] (List.length e4) 1 9 (some 0) && true && true && true && decide ((List.length e4 + 1) * 16 ≤ 140737488355328) && true && true) (gAnd (lowVss 1 (e4 ++ [[AV.str s2]]) && true && (lowVss 1 e && true && true) && true) (ToEnd cfg 20 (bodyOf Tryd.f20) (RetIs Tryd.prog Tryd.f20 v) [Fm.code [0, 1, 0, 1], Fm.block 0, Fm.code [1, 1]] XT.normal [(1, true, AV.str s1), (4, true, AV.sl 1 (e4 ++ [[AV.str s2]]) (some 0)), (7, true, AV.sl sz e none), (8, true, AV.int IntKind.i64 i8), (9, true, AV.int IntKind.i64 (IntKind.wrap IntKind.i64 (i9 + 1)))] [Blk.grow (List.length e4 + 1) 1 9]))) (gAnd (lowVss 1 e4 && true && (lowVss 1 e && true && true) && true) (ToEnd cfg 20 (bodyOf Tryd.f20) (RetIs Tryd.prog Tryd.f20 v) [Fm.code [0, 1, 0, 1], Fm.block 0, Fm.code [1, 1]] XT.normal [(1, true, AV.str s1), (4, true, AV.sl 1 e4 (some 0)), (7, true, AV.sl sz e none), (8, true, AV.int IntKind.i64 i8), (9, true, AV.int IntKind.i64 (IntKind.wrap IntKind.i64 (i9 + 1)))] [Blk.grow g0 1 9])))) (AV.sl 1 (stripss 0 [Blk.grow g0 1 9] e4) none = v)) :
    ToEnd cfg 20 (bodyOf Tryd.f20) (RetIs Tryd.prog Tryd.f20 v) ([.code [0, 1, 0, 1], Fm.block 0, Fm.code [1, 1]]) .normal ([(1, true, AV.str s1), (4, true, AV.sl 1 e4 (some 0)), (7, true, AV.sl sz e none), (8, true, AV.int IntKind.i64 i8), (9, true, AV.int IntKind.i64 i9)]) ([Blk.grow g0 1 9]) := by
  have e : unr cfg 20 (bodyOf Tryd.f20) (ctab [(35, likeB)]) ⟨[[0, 1, 0, 1]], [([0, 0, 0, 1, 1, 0, 0, 1, 0, 1], 0, [.str, .str])]⟩ (RetIs Tryd.prog Tryd.f20 v) 100000 ([.code [0, 0, 1, 0, 1], .loop [0, 1, 0, 1] 1, Fm.block 0, Fm.code [1, 1]]) .normal ([(1, true, AV.str s1), (4, true, AV.sl 1 e4 (some 0)), (7, true, AV.sl sz e none), (8, true, AV.int IntKind.i64 i8), (9, true, AV.int IntKind.i64 i9)]) ([Blk.grow g0 1 9]) =
    (ifP (decide (i9 < i8)) (gAnd (inR i9 (List.length e) && Nat.beq sz 2 && Nat.ble 1 sz) (∃ (s1_1 : List UInt8), ∃ (s2 : List UInt8), getE e i9 = [AV.str s1_1, AV.str s2] ∧ ∃ (a3 : List UInt8), ∃ (b4 : List UInt8), List.length a3 ≤ 9223372036854775807 ∧ List.length b4 ≤ 9223372036854775807 ∧ [AV.str s1_1, AV.str s1] = [AV.str a3, AV.str b4] ∧ ifP (lowS a3 == lowS b4) (gAnd (tagOk [Blk.grow g0 1 9, Blk.mem 38 [AV.str s1_1, AV.str s2], Blk.grow 1 1 9] (List.length e4) 1 9 (some 0) && true && true && true && decide ((List.length e4 + 1) * 16 ≤ 140737488355328) && true && true) (gAnd (lowVss 1 (e4 ++ [[AV.str s2]]) && true && (lowVss 1 e && true && true) && true) (ToEnd cfg 20 (bodyOf Tryd.f20) (RetIs Tryd.prog Tryd.f20 v) [Fm.code [0, 1, 0, 1], Fm.block 0, Fm.code [1, 1]] XT.normal [(1, true, AV.str s1), (4, true, AV.sl 1 (e4 ++ [[AV.str s2]]) (some 0)), (7, true, AV.sl sz e none), (8, true, AV.int IntKind.i64 i8), (9, true, AV.int IntKind.i64 (IntKind.wrap IntKind.i64 (i9 + 1)))] [Blk.grow (List.length e4 + 1) 1 9]))) (gAnd (lowVss 1 e4 && true && (lowVss 1 e && true && true) && true) (ToEnd cfg 20 (bodyOf Tryd.f20) (RetIs Tryd.prog Tryd.f20 v) [Fm.code [0, 1, 0, 1], Fm.block 0, Fm.code [1, 1]] XT.normal [(1, true, AV.str s1), (4, true, AV.sl 1 e4 (some 0)), (7, true, AV.sl sz e none), (8, true, AV.int IntKind.i64 i8), (9, true, AV.int IntKind.i64 (IntKind.wrap IntKind.i64 (i9 + 1)))] [Blk.grow g0 1 9])))) (AV.sl 1 (stripss 0 [Blk.grow g0 1 9] e4) none = v)) := by kernel_rfl
  exact ends_round hT 100000 (by kernel_rfl) (e.mpr H)

theorem t57a {v : AV} {s : List UInt8} (hT : TabOk cfg (ctab [])) (H :
    ifP ((↑(List.length s) : Int) == 0) (AV.tup [AV.int IntKind.i64 0, AV.bool false] = v) (ifP (decide ((↑(List.length s) : Int) > 18)) (AV.tup [AV.int IntKind.i64 0, AV.bool false] = v) (ToEnd cfg 57 (bodyOf Tryd.f57) (RetIs Tryd.prog Tryd.f57 v) [Fm.code [0, 1, 0, 1, 1, 1], Fm.block 0, Fm.code [1, 1, 1, 1]] XT.normal [(0, true, AV.str s), (4, true, AV.int IntKind.i64 0), (5, true, AV.int IntKind.i64 0)] []))) :
    ToEnd cfg 57 (bodyOf Tryd.f57) (RetIs Tryd.prog Tryd.f57 v) ([.code []]) .normal ([(0, true, .str s)]) ([]) := by
  have e : unr cfg 57 (bodyOf Tryd.f57) (ctab []) ⟨[[0, 1, 0, 1, 1, 1]], []⟩ (RetIs Tryd.prog Tryd.f57 v) 100000 ([.code []]) .normal ([(0, true, .str s)]) ([]) =
    (ifP ((↑(List.length s) : Int) == 0) (AV.tup [AV.int IntKind.i64 0, AV.bool false] = v) (ifP (decide ((↑(List.length s) : Int) > 18)) (AV.tup [AV.int IntKind.i64 0, AV.bool false] = v) (ToEnd cfg 57 (bodyOf Tryd.f57) (RetIs Tryd.prog Tryd.f57 v) [Fm.code [0, 1, 0, 1, 1, 1], Fm.block 0, Fm.code [1, 1, 1, 1]] XT.normal [(0, true, AV.str s), (4, true, AV.int IntKind.i64 0), (5, true, AV.int IntKind.i64 0)] []))) := by kernel_rfl
  exact unr_ok hT 100000 _ _ _ _ (e.mpr H)

theorem t57b {v : AV}  {s0 : List UInt8} {i4 : Int} {i5 : Int} (hT : TabOk cfg (ctab [])) (H :
    ifP (decide (i5 < (↑(List.length s0) : Int))) (gAnd (inR i5 (List.length s0)) (ifP (decide ((↑(UInt8.toNat (List.getD s0 (Int.toNat i5) 0)) : Int) < 48)) (AV.tup [AV.int IntKind.i64 0, AV.bool false] = v) (gAnd (inR i5 (List.length s0)) (ifP (decide ((↑(UInt8.toNat (List.getD s0 (Int.toNat i5) 0)) : Int) > 57)) (AV.tup [AV.int IntKind.i64 0, AV.bool false] = v) (gAnd (inR i5 (List.length s0)) (ToEnd cfg 57 (bodyOf Tryd.f57) (RetIs Tryd.prog Tryd.f57 v) [Fm.code [0, 1, 0, 1, 1, 1], Fm.block 0, Fm.code [1, 1, 1, 1]] XT.normal [(0, true, AV.str s0), (4, true, AV.int IntKind.i64 (IntKind.wrap IntKind.i64 (IntKind.wrap IntKind.i64 (10 * i4) + IntKind.wrap IntKind.i64 (IntKind.wrap IntKind.u8 ((↑(UInt8.toNat (List.getD s0 (Int.toNat i5) 0)) : Int) - 48))))), (5, true, AV.int IntKind.i64 (IntKind.wrap IntKind.i64 (i5 + 1)))] [])))))) (AV.tup [AV.int IntKind.i64 i4, AV.bool true] = v)) :
    ToEnd cfg 57 (bodyOf Tryd.f57) (RetIs Tryd.prog Tryd.f57 v) ([.code [0, 1, 0, 1, 1, 1], Fm.block 0, Fm.code [1, 1, 1, 1]]) .normal ([(0, true, AV.str s0), (4, true, AV.int IntKind.i64 i4), (5, true, AV.int IntKind.i64 i5)]) ([]) := by
  have e : unr cfg 57 (bodyOf Tryd.f57) (ctab []) ⟨[[0, 1, 0, 1, 1, 1]], []⟩ (RetIs Tryd.prog Tryd.f57 v) 100000 ([.code [0, 0, 1, 0, 1, 1, 1], .loop [0, 1, 0, 1, 1, 1] 0, Fm.block 0, Fm.code [1, 1, 1, 1]]) .normal ([(0, true, AV.str s0), (4, true, AV.int IntKind.i64 i4), (5, true, AV.int IntKind.i64 i5)]) ([]) =
    (ifP (decide (i5 < (↑(List.length s0) : Int))) (gAnd (inR i5 (List.length s0)) (ifP (decide ((↑(UInt8.toNat (List.getD s0 (Int.toNat i5) 0)) : Int) < 48)) (AV.tup [AV.int IntKind.i64 0, AV.bool false] = v) (gAnd (inR i5 (List.length s0)) (ifP (decide ((↑(UInt8.toNat (List.getD s0 (Int.toNat i5) 0)) : Int) > 57)) (AV.tup [AV.int IntKind.i64 0, AV.bool false] = v) (gAnd (inR i5 (List.length s0)) (ToEnd cfg 57 (bodyOf Tryd.f57) (RetIs Tryd.prog Tryd.f57 v) [Fm.code [0, 1, 0, 1, 1, 1], Fm.block 0, Fm.code [1, 1, 1, 1]] XT.normal [(0, true, AV.str s0), (4, true, AV.int IntKind.i64 (IntKind.wrap IntKind.i64 (IntKind.wrap IntKind.i64 (10 * i4) + IntKind.wrap IntKind.i64 (IntKind.wrap IntKind.u8 ((↑(UInt8.toNat (List.getD s0 (Int.toNat i5) 0)) : Int) - 48))))), (5, true, AV.int IntKind.i64 (IntKind.wrap IntKind.i64 (i5 + 1)))] [])))))) (AV.tup [AV.int IntKind.i64 i4, AV.bool true] = v)) := by kernel_rfl
  exact ends_round hT 100000 (by kernel_rfl) (e.mpr H)

theorem t17a {v : AV} {e d : List (List AV)} {sz sy : Nat} (hT : TabOk cfg (ctab [])) (H :
    ifP ((↑(List.length e) : Int) != (↑(List.length d) : Int)) (AV.bool false = v) (ToEnd cfg 17 (bodyOf Tryd.f17) (RetIs Tryd.prog Tryd.f17 v) [Fm.code [0, 1, 0, 1, 1], Fm.block 0, Fm.code [1, 1, 1]] XT.normal [(0, true, AV.sl sz e none), (1, true, AV.sl sy d none), (5, true, AV.int IntKind.i64 0)] [])) :
    ToEnd cfg 17 (bodyOf Tryd.f17) (RetIs Tryd.prog Tryd.f17 v) ([.code []]) .normal ([(0, true, .sl sz e none), (1, true, .sl sy d none)]) ([]) := by
  have e : unr cfg 17 (bodyOf Tryd.f17) (ctab []) ⟨[[0, 1, 0, 1, 1]], [([0, 0, 0, 1, 0, 0, 1, 0, 1, 1], 2, [.str, .str]), ([0, 0, 0, 1, 0, 0, 1, 0, 1, 1], 6, [.str, .str])]⟩ (RetIs Tryd.prog Tryd.f17 v) 100000 ([.code []]) .normal ([(0, true, .sl sz e none), (1, true, .sl sy d none)]) ([]) =
    (ifP ((↑(List.length e) : Int) != (↑(List.length d) : Int)) (AV.bool false = v) (ToEnd cfg 17 (bodyOf Tryd.f17) (RetIs Tryd.prog Tryd.f17 v) [Fm.code [0, 1, 0, 1, 1], Fm.block 0, Fm.code [1, 1, 1]] XT.normal [(0, true, AV.sl sz e none), (1, true, AV.sl sy d none), (5, true, AV.int IntKind.i64 0)] [])) := by kernel_rfl
  exact unr_ok hT 100000 _ _ _ _ (e.mpr H)

theorem t17b {v : AV} {e d : List (List AV)} {sz sy : Nat} {i5 : Int} (hT : TabOk cfg (ctab [])) (H :
    ifP (decide (i5 < (↑(List.length e) : Int))) (gAnd (inR i5 (List.length e) && Nat.beq sz 2 && Nat.ble 1 sz) (∃ (s1 : List UInt8), ∃ (s2 : List UInt8), getE e i5 = [AV.str s1, AV.str s2] ∧ gAnd (inR i5 (List.length d) && Nat.beq sy 2 && Nat.ble 1 sy) (∃ (s3 : List UInt8), ∃ (s4 : List UInt8), getE d i5 = [AV.str s3, AV.str s4] ∧ ifP (!(s1 == s3 && (s2 == s4 && true))) (AV.bool false = v) (ToEnd cfg 17 (bodyOf Tryd.f17) (RetIs Tryd.prog Tryd.f17 v) [Fm.code [0, 1, 0, 1, 1], Fm.block 0, Fm.code [1, 1, 1]] XT.normal [(0, true, AV.sl sz e none), (1, true, AV.sl sy d none), (5, true, AV.int IntKind.i64 (IntKind.wrap IntKind.i64 (i5 + 1)))] [])))) (AV.bool true = v)) :
    ToEnd cfg 17 (bodyOf Tryd.f17) (RetIs Tryd.prog Tryd.f17 v) ([.code [0, 1, 0, 1, 1], Fm.block 0, Fm.code [1, 1, 1]]) .normal ([(0, true, AV.sl sz e none), (1, true, AV.sl sy d none), (5, true, AV.int IntKind.i64 i5)]) ([]) := by
  have e : unr cfg 17 (bodyOf Tryd.f17) (ctab []) ⟨[[0, 1, 0, 1, 1]], [([0, 0, 0, 1, 0, 0, 1, 0, 1, 1], 2, [.str, .str]), ([0, 0, 0, 1, 0, 0, 1, 0, 1, 1], 6, [.str, .str])]⟩ (RetIs Tryd.prog Tryd.f17 v) 100000 ([.code [0, 0, 1, 0, 1, 1], .loop [0, 1, 0, 1, 1] 0, Fm.block 0, Fm.code [1, 1, 1]]) .normal ([(0, true, AV.sl sz e none), (1, true, AV.sl sy d none), (5, true, AV.int IntKind.i64 i5)]) ([]) =
    (ifP (decide (i5 < (↑(List.length e) : Int))) (gAnd (inR i5 (List.length e) && Nat.beq sz 2 && Nat.ble 1 sz) (∃ (s1 : List UInt8), ∃ (s2 : List UInt8), getE e i5 = [AV.str s1, AV.str s2] ∧ gAnd (inR i5 (List.length d) && Nat.beq sy 2 && Nat.ble 1 sy) (∃ (s3 : List UInt8), ∃ (s4 : List UInt8), getE d i5 = [AV.str s3, AV.str s4] ∧ ifP (!(s1 == s3 && (s2 == s4 && true))) (AV.bool false = v) (ToEnd cfg 17 (bodyOf Tryd.f17) (RetIs Tryd.prog Tryd.f17 v) [Fm.code [0, 1, 0, 1, 1], Fm.block 0, Fm.code [1, 1, 1]] XT.normal [(0, true, AV.sl sz e none), (1, true, AV.sl sy d none), (5, true, AV.int IntKind.i64 (IntKind.wrap IntKind.i64 (i5 + 1)))] [])))) (AV.bool true = v)) := by kernel_rfl
  exact ends_round hT 100000 (by kernel_rfl) (e.mpr H)

theorem t13a {v : AV} {e : List (List AV)} {sz : Nat} (hT : TabOk cfg (ctab [])) (H :
    ifP (decide ((↑(List.length e) : Int) > 80)) (AV.bool false = v) (ToEnd cfg 13 (bodyOf Tryd.f13) (RetIs Tryd.prog Tryd.f13 v) [Fm.code [0, 1, 0, 1, 1, 1], Fm.block 0, Fm.code [1, 1, 1, 1]] XT.normal [(0, true, AV.sl sz e none), (3, true, AV.int IntKind.i64 12000), (4, true, AV.int IntKind.i64 0)] [])) :
    ToEnd cfg 13 (bodyOf Tryd.f13) (RetIs Tryd.prog Tryd.f13 v) ([.code []]) .normal ([(0, true, .sl sz e none)]) ([]) := by
  have e : unr cfg 13 (bodyOf Tryd.f13) (ctab []) ⟨[[0, 1, 0, 1, 1, 1]], [([0, 0, 0, 0, 1, 0, 0, 1, 0, 1, 1, 1], 2, [.str, .str]), ([0, 0, 0, 0, 1, 0, 0, 1, 0, 1, 1, 1], 11, [.str, .str]), ([0, 0, 0, 0, 1, 0, 0, 1, 0, 1, 1, 1], 18, [.str, .str]), ([1, 0, 0, 1, 0, 0, 1, 0, 1, 1, 1], 3, [.str, .str]), ([1, 0, 0, 1, 0, 0, 1, 0, 1, 1, 1], 10, [.str, .str])]⟩ (RetIs Tryd.prog Tryd.f13 v) 100000 ([.code []]) .normal ([(0, true, .sl sz e none)]) ([]) =
    (ifP (decide ((↑(List.length e) : Int) > 80)) (AV.bool false = v) (ToEnd cfg 13 (bodyOf Tryd.f13) (RetIs Tryd.prog Tryd.f13 v) [Fm.code [0, 1, 0, 1, 1, 1], Fm.block 0, Fm.code [1, 1, 1, 1]] XT.normal [(0, true, AV.sl sz e none), (3, true, AV.int IntKind.i64 12000), (4, true, AV.int IntKind.i64 0)] [])) := by kernel_rfl
  exact unr_ok hT 100000 _ _ _ _ (e.mpr H)

theorem t13b {v : AV} {e : List (List AV)} {sz : Nat} {i3 : Int} {i4 : Int} (hT : TabOk cfg (ctab [])) (H :
    ifP (decide (i4 < (↑(List.length e) : Int))) (gAnd (inR i4 (List.length e) && Nat.beq sz 2 && Nat.ble 1 sz) (∃ (s1 : List UInt8), ∃ (s2 : List UInt8), getE e i4 = [AV.str s1, AV.str s2] ∧ ifP (decide ((↑(List.length s1) : Int) > i3)) (AV.bool false = v) (gAnd (inR i4 (List.length e) && Nat.beq sz 2 && Nat.ble 1 sz) (∃ (s3 : List UInt8), ∃ (s4 : List UInt8), getE e i4 = [AV.str s3, AV.str s4] ∧ gAnd (inR i4 (List.length e) && Nat.beq sz 2 && Nat.ble 1 sz) (∃ (s5 : List UInt8), ∃ (s6 : List UInt8), getE e i4 = [AV.str s5, AV.str s6] ∧ ifP (decide ((↑(List.length s4) : Int) > IntKind.wrap IntKind.i64 (i3 - (↑(List.length s5) : Int)))) (AV.bool false = v) (gAnd (inR i4 (List.length e) && Nat.beq sz 2 && Nat.ble 1 sz) (∃ (s7 : List UInt8), ∃ (s8 : List UInt8), getE e i4 = [AV.str s7, AV.str s8] ∧ gAnd (inR i4 (List.length e) && Nat.beq sz 2 && Nat.ble 1 sz) (∃ (s9 : List UInt8), ∃ (s10 : List UInt8), getE e i4 = [AV.str s9, AV.str s10] ∧ ToEnd cfg 13 (bodyOf Tryd.f13) (RetIs Tryd.prog Tryd.f13 v) [Fm.code [0, 1, 0, 1, 1, 1], Fm.block 0, Fm.code [1, 1, 1, 1]] XT.normal [(0, true, AV.sl sz e none), (3, true, AV.int IntKind.i64 (IntKind.wrap IntKind.i64 (IntKind.wrap IntKind.i64 (i3 - (↑(List.length s7) : Int)) - (↑(List.length s10) : Int)))), (4, true, AV.int IntKind.i64 (IntKind.wrap IntKind.i64 (i4 + 1)))] [])))))))) (AV.bool true = v)) :
    ToEnd cfg 13 (bodyOf Tryd.f13) (RetIs Tryd.prog Tryd.f13 v) ([.code [0, 1, 0, 1, 1, 1], Fm.block 0, Fm.code [1, 1, 1, 1]]) .normal ([(0, true, AV.sl sz e none), (3, true, AV.int IntKind.i64 i3), (4, true, AV.int IntKind.i64 i4)]) ([]) := by
  have e : unr cfg 13 (bodyOf Tryd.f13) (ctab []) ⟨[[0, 1, 0, 1, 1, 1]], [([0, 0, 0, 0, 1, 0, 0, 1, 0, 1, 1, 1], 2, [.str, .str]), ([0, 0, 0, 0, 1, 0, 0, 1, 0, 1, 1, 1], 11, [.str, .str]), ([0, 0, 0, 0, 1, 0, 0, 1, 0, 1, 1, 1], 18, [.str, .str]), ([1, 0, 0, 1, 0, 0, 1, 0, 1, 1, 1], 3, [.str, .str]), ([1, 0, 0, 1, 0, 0, 1, 0, 1, 1, 1], 10, [.str, .str])]⟩ (RetIs Tryd.prog Tryd.f13 v) 100000 ([.code [0, 0, 1, 0, 1, 1, 1], .loop [0, 1, 0, 1, 1, 1] 0, Fm.block 0, Fm.code [1, 1, 1, 1]]) .normal ([(0, true, AV.sl sz e none), (3, true, AV.int IntKind.i64 i3), (4, true, AV.int IntKind.i64 i4)]) ([]) =
    (ifP (decide (i4 < (↑(List.length e) : Int))) (gAnd (inR i4 (List.length e) && Nat.beq sz 2 && Nat.ble 1 sz) (∃ (s1 : List UInt8), ∃ (s2 : List UInt8), getE e i4 = [AV.str s1, AV.str s2] ∧ ifP (decide ((↑(List.length s1) : Int) > i3)) (AV.bool false = v) (gAnd (inR i4 (List.length e) && Nat.beq sz 2 && Nat.ble 1 sz) (∃ (s3 : List UInt8), ∃ (s4 : List UInt8), getE e i4 = [AV.str s3, AV.str s4] ∧ gAnd (inR i4 (List.length e) && Nat.beq sz 2 && Nat.ble 1 sz) (∃ (s5 : List UInt8), ∃ (s6 : List UInt8), getE e i4 = [AV.str s5, AV.str s6] ∧ ifP (decide ((↑(List.length s4) : Int) > IntKind.wrap IntKind.i64 (i3 - (↑(List.length s5) : Int)))) (AV.bool false = v) (gAnd (inR i4 (List.length e) && Nat.beq sz 2 && Nat.ble 1 sz) (∃ (s7 : List UInt8), ∃ (s8 : List UInt8), getE e i4 = [AV.str s7, AV.str s8] ∧ gAnd (inR i4 (List.length e) && Nat.beq sz 2 && Nat.ble 1 sz) (∃ (s9 : List UInt8), ∃ (s10 : List UInt8), getE e i4 = [AV.str s9, AV.str s10] ∧ ToEnd cfg 13 (bodyOf Tryd.f13) (RetIs Tryd.prog Tryd.f13 v) [Fm.code [0, 1, 0, 1, 1, 1], Fm.block 0, Fm.code [1, 1, 1, 1]] XT.normal [(0, true, AV.sl sz e none), (3, true, AV.int IntKind.i64 (IntKind.wrap IntKind.i64 (IntKind.wrap IntKind.i64 (i3 - (↑(List.length s7) : Int)) - (↑(List.length s10) : Int)))), (4, true, AV.int IntKind.i64 (IntKind.wrap IntKind.i64 (i4 + 1)))] [])))))))) (AV.bool true = v)) := by kernel_rfl
  exact ends_round hT 100000 (by kernel_rfl) (e.mpr H)

end Go.Proofs.YtnncfdlpogjlkaaDoor
end

section
namespace Go.Proofs.YtnncfdlpogjlkaaDoor
open Go.Ai Go
set_option linter.unusedSimpArgs false
set_option linter.unusedVariables false
set_option linter.unnecessarySimpa false
set_option maxRecDepth 100000

theorem pf58 : pureFn cfg 58 Tryd.f58 := ⟨by kernel_rfl, by kernel_rfl, by kernel_rfl, by kernel_rfl, by kernel_rfl, by kernel_rfl⟩
theorem pf35 : pureFn cfg 35 Tryd.f35 := ⟨by kernel_rfl, by kernel_rfl, by kernel_rfl, by kernel_rfl, by kernel_rfl, by kernel_rfl⟩
theorem pf68 : pureFn cfg 68 Tryd.f68 := ⟨by kernel_rfl, by kernel_rfl, by kernel_rfl, by kernel_rfl, by kernel_rfl, by kernel_rfl⟩
theorem pf56 : pureFn cfg 56 Tryd.f56 := ⟨by kernel_rfl, by kernel_rfl, by kernel_rfl, by kernel_rfl, by kernel_rfl, by kernel_rfl⟩
theorem pf92 : pureFn cfg 92 Tryd.f92 := ⟨by kernel_rfl, by kernel_rfl, by kernel_rfl, by kernel_rfl, by kernel_rfl, by kernel_rfl⟩
theorem pf54 : pureFn cfg 54 Tryd.f54 := ⟨by kernel_rfl, by kernel_rfl, by kernel_rfl, by kernel_rfl, by kernel_rfl, by kernel_rfl⟩
theorem pf20 : pureFn cfg 20 Tryd.f20 := ⟨by kernel_rfl, by kernel_rfl, by kernel_rfl, by kernel_rfl, by kernel_rfl, by kernel_rfl⟩
theorem pf57 : pureFn cfg 57 Tryd.f57 := ⟨by kernel_rfl, by kernel_rfl, by kernel_rfl, by kernel_rfl, by kernel_rfl, by kernel_rfl⟩
theorem pf17 : pureFn cfg 17 Tryd.f17 := ⟨by kernel_rfl, by kernel_rfl, by kernel_rfl, by kernel_rfl, by kernel_rfl, by kernel_rfl⟩
theorem pf13 : pureFn cfg 13 Tryd.f13 := ⟨by kernel_rfl, by kernel_rfl, by kernel_rfl, by kernel_rfl, by kernel_rfl, by kernel_rfl⟩

/-! Small letters -/
theorem lowC_big {c : UInt8} (h : 65 ≤ c.toNat ∧ c.toNat ≤ 90) : IntKind.wrap .u8 ((c.toNat : Int) + 32) = ((lowC c).toNat : Nat) := by
  rw [lowC_toNat, if_pos h, wrap_u8 (by omega) (by omega)]; omega
theorem lowC_other {c : UInt8} (h : ¬ (65 ≤ c.toNat ∧ c.toNat ≤ 90)) : lowC c = c := by unfold lowC; rw [if_neg h]
theorem loop58 : ∀ (r pre : List UInt8), (pre ++ r).length ≤ limB →
    ToEnd cfg 58 (bodyOf Tryd.f58) (RetIs Tryd.prog Tryd.f58 (.str (lowS (pre ++ r)))) [.code [0, 1, 0, 1, 1], .block 0, .code [1, 1, 1]] .normal
      [(3, true, .osl 0 0 (pre ++ r).length 1), (8, true, .int .i64 ((pre ++ r).length : Nat)), (9, true, .int .i64 pre.length)] [.mem 5 (bc (lowS pre ++ r))] := by
  intro r
  induction r with
  | nil =>
    intro pre hl
    refine t58b (ctab_ok ctab_nil) (ifP_intro (fun a => ?_) fun _ => ?_)
    · simp at a
    · have e : List.take (pre ++ []).length (List.drop 0 (bc (lowS pre ++ []))) = bc (lowS (pre ++ [])) := by
        rw [List.drop_zero, List.append_nil, List.append_nil, List.take_of_length_le (by rw [bc_len, lowS_len]; exact Nat.le_refl _)]
      rw [e]
      exact gAnd_intro (cellsB_bc _) (by rw [cellV_bc])
  | cons x r ih =>
    intro pre hl
    have hlen : pre.length + 1 ≤ limB := by simp at hl; omega
    have hin : (inR (pre.length : Int) (pre ++ x :: r).length && true && true) = true := by rw [inR_nat (by simp)]; rfl
    have hi : 0 + Int.toNat (pre.length : Int) * 1 = (bc (lowS pre)).length := by rw [bc_len, lowS_len]; simp
    have hcs : bc (lowS pre ++ x :: r) = bc (lowS pre) ++ AV.int .u8 ((UInt8.toNat x : Nat) : Int) :: bc r := by rw [bc_app]; rfl
    have hx := x.toNat_lt
    have next : lowC x = x → ToEnd cfg 58 (bodyOf Tryd.f58) (RetIs Tryd.prog Tryd.f58 (.str (lowS (pre ++ x :: r)))) [.code [0, 1, 0, 1, 1], .block 0, .code [1, 1, 1]] .normal
      [(3, true, .osl 0 0 (pre ++ x :: r).length 1), (8, true, .int .i64 ((pre ++ x :: r).length : Nat)), (9, true, .int .i64 (IntKind.wrap .i64 ((pre.length : Int) + 1)))] [.mem 5 (bc (lowS pre ++ x :: r))] := fun hc => by
      rw [wrap_b hlen]
      have := ih (pre ++ [x]) (by simpa using hl)
      simpa [lowS, hc] using this
    refine t58b (ctab_ok ctab_nil) (ifP_intro (fun _ => gAnd_intro hin ⟨_, by rw [hcs]; exact take_at hi, ifP_intro (fun b => gAnd_intro hin ⟨_, by rw [hcs]; exact take_at hi, ifP_intro (fun c => gAnd_intro hin ⟨_, by rw [hcs]; exact take_at hi, gAnd_intro hin (gAnd_intro ?_ ?_)⟩) fun c => ?_⟩) fun b => ?_⟩) fun a => ?_)
    · rw [hi, hcs]; simp
    · rw [hcs, splice_at hi, wrap_b hlen]
      simp only [ge_iff_le, decide_eq_true_eq] at b c
      rw [lowC_big (by omega)]
      have := ih (pre ++ [x]) (by simpa using hl)
      have e : bc (lowS (pre ++ [x]) ++ r) = bc (lowS pre) ++ AV.int .u8 ((UInt8.toNat (lowC x) : Nat) : Int) :: bc r := by
        have : lowS (pre ++ [x]) ++ r = lowS pre ++ lowC x :: r := by simp [lowS]
        rw [this, bc_app]; rfl
      rw [e] at this
      simpa using this
    · simp only [ge_iff_le, decide_eq_true_eq, decide_eq_false_iff_not] at b c
      exact next (lowC_other (by omega))
    · simp only [ge_iff_le, decide_eq_true_eq, decide_eq_false_iff_not] at b
      exact next (lowC_other (by omega))
    · simp at a; omega
theorem c58 : COk cfg 58 lowerB := by
  refine cok_pure pf58 fun vs h K ht => ?_
  obtain ⟨s, hl, rfl, hk⟩ := ht
  refine ⟨_, hk, t58a (ctab_ok ctab_nil) (gAnd_intro (by unfold limB at hl; exact Nat.ble_eq_true_of_le (by omega)) ?_)⟩
  exact loop58 s [] hl
theorem c35 : COk cfg 35 likeB := by
  refine cok_pure pf35 fun vs h K ht => ?_
  obtain ⟨a, b, ha, hb, rfl, hk⟩ := ht
  exact ⟨_, hk, t35 (ctab_ok (ctab_cons c58 ctab_nil)) ⟨a, ha, rfl, b, hb, rfl, rfl⟩⟩
theorem c66 : COk cfg 66 trimSC := by
  refine cok_prim (by kernel_rfl) (by kernel_rfl) (by kernel_rfl : cfg.prim 66 = some pTrim) (by kernel_rfl) fun vs h K ht => ?_
  obtain ⟨s, cs, h1, h2, h3, rfl, hk⟩ := ht
  refine ⟨.str (Lib.trimS s cs), hk, ?_⟩
  have e : (Nat.ble s.length 9223372036854775807 && Nat.blt cs.length 4294967281 && asciiB cs) = true := by
    unfold asciiB
    have e2 : Nat.blt cs.length 4294967281 = true := Nat.ble_eq_true_of_le (by omega)
    rw [h3, Nat.ble_eq_true_of_le (by unfold lim at h1; omega), e2]; rfl
  simp only [pTrim, e]
theorem c68 : COk cfg 68 trimC := by
  refine cok_pure pf68 fun vs h K ht => ?_
  obtain ⟨s, hl, rfl, hk⟩ := ht
  exact ⟨_, hk, t68 (ctab_ok (ctab_cons c66 ctab_nil)) ⟨s, _, hl, (by decide), (by decide), rfl, rfl⟩⟩

theorem loop56 : ∀ (r pre : List UInt8), (pre ++ r).length ≤ lim →
    ToEnd cfg 56 (bodyOf Tryd.f56) (RetIs Tryd.prog Tryd.f56 (.str (lowS (pre ++ r)))) [.code [0, 1, 0, 1, 1], .block 0, .code [1, 1, 1]] .normal
      [(0, true, .str (pre ++ r)), (3, true, .sl 1 (rb (lowS pre)) (some 0)), (4, true, .int .i64 pre.length)] [.grow pre.length 1 5] := by
  intro r
  induction r with
  | nil =>
    intro pre hl
    refine t56b (ctab_ok ctab_nil) (ifP_intro (fun a => ?_) fun _ => ?_)
    · simp at a
    · exact gAnd_intro (rowsB_rb _) (by rw [rowV_rb, List.append_nil])
  | cons x r ih =>
    intro pre hl
    have hlen : pre.length ≤ lim := by simp at hl; omega
    have hx := x.toNat_lt
    have hg : (tagOk [Blk.grow pre.length 1 5, Blk.grow 1 1 5] (rb (lowS pre)).length 1 5 (some 0) && true && true && true && decide (((rb (lowS pre)).length + 1) * 1 ≤ 140737488355328) && true && true) = true := by
      rw [rb_len, lowS_len, tag_ok rfl, decide_eq_true (by unfold lim at hlen; omega)]; rfl
    have next : ∀ z : Int, z = ((lowC x).toNat : Nat) → gAnd (tagOk [Blk.grow pre.length 1 5, Blk.grow 1 1 5] (rb (lowS pre)).length 1 5 (some 0) && true && true && true && decide (((rb (lowS pre)).length + 1) * 1 ≤ 140737488355328) && true && true)
       (gAnd (lowVss 1 (rb (lowS pre) ++ [[AV.int IntKind.u8 z]]) && true && true && true) (ToEnd cfg 56 (bodyOf Tryd.f56) (RetIs Tryd.prog Tryd.f56 (.str (lowS (pre ++ x :: r)))) [.code [0, 1, 0, 1, 1], .block 0, .code [1, 1, 1]] .normal
      [(0, true, .str (pre ++ x :: r)), (3, true, .sl 1 (rb (lowS pre) ++ [[AV.int IntKind.u8 z]]) (some 0)), (4, true, .int .i64 (IntKind.wrap .i64 ((pre.length : Int) + 1)))] [.grow ((rb (lowS pre)).length + 1) 1 5])) := fun z hz => by
      have e : rb (lowS pre) ++ [[AV.int IntKind.u8 z]] = rb (lowS (pre ++ [x])) := by
        subst hz
        rw [show lowS (pre ++ [x]) = lowS pre ++ [lowC x] by simp [lowS], rb_app]; rfl
      refine gAnd_intro hg (gAnd_intro (by rw [e, low_rb]; rfl) ?_)
      rw [e, wrap_n hlen, rb_len, lowS_len]
      have := ih (pre ++ [x]) (by simpa using hl)
      simpa using this
    refine t56b (ctab_ok ctab_nil) (ifP_intro (fun _ => gAnd_intro (inR_nat (by simp)) ?_) fun a => ?_)
    · rw [at_pre]
      refine ifP_intro (fun b => ifP_intro (fun c => ?_) fun c => ?_) fun b => ?_
      · simp only [ge_iff_le, decide_eq_true_eq] at b c
        exact next _ (lowC_big (by omega))
      · simp only [ge_iff_le, decide_eq_true_eq, decide_eq_false_iff_not] at b c
        exact next _ (by rw [lowC_other (by omega)])
      · simp only [ge_iff_le, decide_eq_true_eq, decide_eq_false_iff_not] at b
        exact next _ (by rw [lowC_other (by omega)])
    · simp at a; omega
theorem c56 : COk cfg 56 lowerC := by
  refine cok_pure pf56 fun vs h K ht => ?_
  obtain ⟨s, hl, rfl, hk⟩ := ht
  exact ⟨_, hk, t56a (ctab_ok ctab_nil) (loop56 s [] hl)⟩

/-! Blanks at the ends -/
theorem bl_of {c : UInt8} (h : ((c.toNat : Int) == 32) = true ∨ ((c.toNat : Int) == 9) = true) : isBl c = true := by
  unfold isBl
  rw [Bool.or_eq_true, beq_iff_eq, beq_iff_eq]
  rcases h with h | h
  · left; exact UInt8.toNat_inj.1 (by have : (c.toNat : Int) = 32 := by simpa using h
                                      show c.toNat = 32; omega)
  · right; exact UInt8.toNat_inj.1 (by have : (c.toNat : Int) = 9 := by simpa using h
                                       show c.toNat = 9; omega)
theorem not_bl {c : UInt8} (h : ((c.toNat : Int) == 32) = false) (h' : ((c.toNat : Int) == 9) = false) : isBl c = false := by
  unfold isBl
  rw [Bool.or_eq_false_iff]
  constructor
  · rw [beq_eq_false_iff_ne]; rintro rfl; simp at h
  · rw [beq_eq_false_iff_ne]; rintro rfl; simp at h'
theorem loop92c {s : List UInt8} (hl : s.length ≤ lim) {a : Nat} (h1 : ∀ (j : Nat) x, j < a → s[j]? = some x → isBl x = true) (h0 : a = s.length ∨ ∀ x, s[a]? = some x → isBl x = false) : ∀ (k : Nat), a + k ≤ s.length → (∀ (j : Nat) x, a + k ≤ j → s[j]? = some x → isBl x = true) →
    ToEnd cfg 92 (bodyOf Tryd.f92) (RetIs Tryd.prog Tryd.f92 (.str (trB s))) [.code [0, 0, 1, 1, 1], .block 2, .code [1, 1, 1, 1]] .normal
      [(0, true, .str s), (3, true, .int .i64 a), (4, true, .int .i64 ((a + k : Nat) : Int))] [] := by
  have fin : ∀ b : Nat, a ≤ b → b ≤ s.length → (∀ (j : Nat) x, b ≤ j → s[j]? = some x → isBl x = true) → (a = b ∨ ∀ x, s[b - 1]? = some x → isBl x = false) →
      gAnd (cutOb s.length (some (a : Int)) (some (b : Int))) (AV.str (cutL s (some (a : Int)) (some (b : Int))) = AV.str (trB s)) := fun b hab hb h2 h3 => by
    refine gAnd_intro (by simp [cutOb]; omega) ?_
    rw [trB_cut hab hb h1 h2 (by
      rcases h3 with h3 | h3
      · exact .inl h3
      · rcases h0 with h0 | h0
        · left; omega
        · exact .inr ⟨h0, h3⟩)]
    simp [cutL]
  intro k
  induction k with
  | zero =>
    intro hk h2
    refine t92c (ctab_ok ctab_nil) (ifP_intro (fun c => ?_) fun _ => ?_)
    · simp at c
    · exact fin a (by omega) (by omega) h2 (.inl rfl)
  | succ k ih =>
    intro hk h2
    have e : IntKind.wrap .i64 (((a + (k + 1) : Nat) : Int) - 1) = ((a + k : Nat) : Int) := by unfold lim at hl; rw [wrap_in (by omega) (by omega)]; omega
    obtain ⟨x, hx⟩ : ∃ x, s[a + k]? = some x := ⟨_, List.getElem?_eq_getElem (by omega)⟩
    have hg : List.getD s (Int.toNat ((a + k : Nat) : Int)) 0 = x := by rw [Int.toNat_natCast, List.getD_eq_getElem?_getD, hx]; rfl
    have step : isBl x = true → ∀ (j : Nat) y, a + k ≤ j → s[j]? = some y → isBl y = true := fun hb j y hj hy => by
      rcases Nat.eq_or_lt_of_le hj with rfl | h
      · rw [hx] at hy; injection hy with hy; subst hy; exact hb
      · exact h2 j y (by omega) hy
    refine t92c (ctab_ok ctab_nil) (ifP_intro (fun c => ?_) fun c => ?_)
    · rw [e, hg]
      refine gAnd_intro (inR_nat (by omega)) (ifP_intro (fun b => ?_) fun b => gAnd_intro (inR_nat (by omega)) (ifP_intro (fun d => ?_) fun d => ?_))
      · exact ih (by omega) (step (bl_of (.inl b)))
      · exact ih (by omega) (step (bl_of (.inr d)))
      · exact fin (a + (k + 1)) (by omega) hk h2 (.inr fun y hy => by
          rw [show a + (k + 1) - 1 = a + k by omega, hx] at hy
          injection hy with hy
          subst hy
          exact not_bl b d)
    · simp at c; omega
theorem loop92b : ∀ (r pre : List UInt8), (pre ++ r).length ≤ lim → (∀ x ∈ pre, isBl x = true) →
    ToEnd cfg 92 (bodyOf Tryd.f92) (RetIs Tryd.prog Tryd.f92 (.str (trB (pre ++ r)))) [.code [0, 0, 1, 1], .block 0, .code [1, 1, 1]] .normal
      [(0, true, .str (pre ++ r)), (3, true, .int .i64 pre.length), (4, true, .int .i64 ((pre ++ r).length : Nat))] [] := by
  intro r
  have hpre : ∀ (pre r : List UInt8), (∀ x ∈ pre, isBl x = true) → ∀ (j : Nat) x, j < pre.length → (pre ++ r)[j]? = some x → isBl x = true := fun pre r h j x hj hx => by
    rw [List.getElem?_append_left hj] at hx
    exact h x (List.mem_of_getElem? hx)
  induction r with
  | nil =>
    intro pre hl hb
    refine t92b (ctab_ok ctab_nil) (ifP_intro (fun c => ?_) fun _ => ?_)
    · simp at c
    · have := loop92c hl (a := pre.length) (hpre pre [] hb) (.inl (by simp)) 0 (by simp) (fun j x hj hx => by rw [List.getElem?_eq_none (by simpa using hj)] at hx; cases hx)
      simpa using this
  | cons x r ih =>
    intro pre hl hb
    have hlen : pre.length ≤ lim := by simp at hl; omega
    have next : isBl x = true → ToEnd cfg 92 (bodyOf Tryd.f92) (RetIs Tryd.prog Tryd.f92 (.str (trB (pre ++ x :: r)))) [.code [0, 0, 1, 1], .block 0, .code [1, 1, 1]] .normal
      [(0, true, .str (pre ++ x :: r)), (3, true, .int .i64 (IntKind.wrap .i64 ((pre.length : Int) + 1))), (4, true, .int .i64 ((pre ++ x :: r).length : Nat))] [] := fun hx => by
      rw [wrap_n hlen]
      have := ih (pre ++ [x]) (by simpa using hl) (fun y hy => by
        rcases List.mem_append.1 hy with h | h
        · exact hb y h
        · simp only [List.mem_singleton] at h; subst h; exact hx)
      simpa using this
    refine t92b (ctab_ok ctab_nil) (ifP_intro (fun _ => ?_) fun c => ?_)
    · rw [at_pre]
      refine gAnd_intro (inR_nat (by simp)) (ifP_intro (fun b => next (bl_of (.inl b))) fun b => gAnd_intro (inR_nat (by simp)) (ifP_intro (fun d => next (bl_of (.inr d))) fun d => ?_))
      have := loop92c hl (a := pre.length) (hpre pre (x :: r) hb) (.inr fun y hy => by
        simp at hy; subst hy; exact not_bl b d) ((x :: r).length) (by simp) (fun j y hj hy => by rw [List.getElem?_eq_none (by simpa using hj)] at hy; cases hy)
      simpa using this
    · simp at c; omega
theorem c92 : COk cfg 92 trimC := by
  refine cok_pure pf92 fun vs h K ht => ?_
  obtain ⟨s, hl, rfl, hk⟩ := ht
  exact ⟨_, hk, t92a (ctab_ok ctab_nil) (loop92b s [] hl (by simp))⟩
end Go.Proofs.YtnncfdlpogjlkaaDoor
end

section
namespace Go.Proofs.YtnncfdlpogjlkaaDoor
open Go.Ai Go
set_option linter.unusedSimpArgs false
set_option linter.unusedVariables false
set_option linter.unnecessarySimpa false
set_option maxRecDepth 100000

/-! Values -/
theorem valuesOf_cons (x : Fld) (r : List Fld) (nm : List UInt8) : valuesOf (x :: r) nm = if (lowS x.name == lowS nm) = true then x.value :: valuesOf r nm else valuesOf r nm := by
  unfold valuesOf
  rw [List.filter_cons]
  split <;> simp
theorem okFs_mem {l : List Fld} (h : okFs l) {f : Fld} (hf : f ∈ l) : f.name.length ≤ lim ∧ f.value.length ≤ lim := h.2 f hf
theorem loop54 {nm : List UInt8} (hn : nm.length ≤ lim) {sz : Nat} : ∀ (r pre : List Fld) (acc : List (List UInt8)) (g : Nat), okFs (pre ++ r) → szOk sz 2 (pre ++ r).length → acc.length ≤ pre.length →
    ToEnd cfg 54 (bodyOf Tryd.f54) (RetIs Tryd.prog Tryd.f54 (.sl 1 (encS (acc ++ valuesOf r nm)) none)) [.code [0, 1, 0, 1, 1], .block 0, .code [1, 1, 1]] .normal
      [(0, true, .sl sz (encFs (pre ++ r)) none), (1, true, .str nm), (5, true, .sl 1 (encS acc) (some 1)), (6, true, .int .i64 pre.length)] [.grow g 1 9, .grow acc.length 1 9] := by
  have hT : TabOk cfg (ctab [(56, lowerC)]) := ctab_ok (ctab_cons c56 ctab_nil)
  intro r
  induction r with
  | nil =>
    intro pre acc g ho hs ha
    refine t54b hT (ifP_intro (fun c => ?_) fun _ => ?_)
    · simp [encFs_len] at c
    · rw [stripss_encS]; simp [valuesOf]
  | cons x r ih =>
    intro pre acc g ho hs ha
    have hlen : pre.length + 1 ≤ lim := by have := ho.1; simp at this; omega
    have hx := okFs_mem ho (f := x) (by simp)
    have hin : (inR (pre.length : Int) (encFs (pre ++ x :: r)).length && Nat.beq sz 2 && Nat.ble 1 sz) = true := by
      rw [encFs_len, inR_nat (by simp), Bool.true_and]
      exact hs.beq (by simp; omega) (by decide)
    refine t54b hT (ifP_intro (fun _ => gAnd_intro hin ⟨x.name, x.value, getE_fs _ _ _, x.name, hx.1, rfl, nm, hn, rfl, ifP_intro (fun b => gAnd_intro hin ⟨x.name, x.value, getE_fs _ _ _, gAnd_intro ?_ (gAnd_intro ?_ ?_)⟩) fun b => gAnd_intro ?_ ?_⟩) fun c => ?_)
    · rw [encS_len, tag_ok rfl, decide_eq_true (by unfold lim at hlen; omega)]; rfl
    · rw [low_encFs, show encS acc ++ [[AV.str x.value]] = encS (acc ++ [x.value]) by simp [encS], low_encS]; rfl
    · rw [wrap_n (by omega), show encS acc ++ [[AV.str x.value]] = encS (acc ++ [x.value]) by simp [encS], encS_len]
      have := ih (pre ++ [x]) (acc ++ [x.value]) g (by simpa using ho) (by simpa using hs) (by simpa using ha)
      rw [valuesOf_cons, if_pos b]
      simpa using this
    · rw [low_encFs, low_encS]; rfl
    · rw [wrap_n (by omega)]
      have := ih (pre ++ [x]) acc g (by simpa using ho) (by simpa using hs) (by simp; omega)
      rw [valuesOf_cons, if_neg (by simp [b])]
      simpa using this
    · simp [encFs_len] at c; omega
theorem okFb_mem {l : List Fld} (h : okFb l) {f : Fld} (hf : f ∈ l) : f.name.length ≤ limB ∧ f.value.length ≤ limB := h.2 f hf
theorem loop20 {nm : List UInt8} (hn : nm.length ≤ lim) {sz : Nat} : ∀ (r pre : List Fld) (acc : List (List UInt8)), okFb (pre ++ r) → szOk sz 2 (pre ++ r).length → acc.length ≤ pre.length →
    ToEnd cfg 20 (bodyOf Tryd.f20) (RetIs Tryd.prog Tryd.f20 (.sl 1 (encS (acc ++ valuesOf r nm)) none)) [.code [0, 1, 0, 1], .block 0, .code [1, 1]] .normal
      [(1, true, .str nm), (4, true, .sl 1 (encS acc) (some 0)), (7, true, .sl sz (encFs (pre ++ r)) none), (8, true, .int .i64 ((encFs (pre ++ r)).length : Nat)), (9, true, .int .i64 pre.length)] [.grow acc.length 1 9] := by
  have hT : TabOk cfg (ctab [(35, likeB)]) := ctab_ok (ctab_cons c35 ctab_nil)
  intro r
  induction r with
  | nil =>
    intro pre acc ho hs ha
    refine t20b hT (ifP_intro (fun c => ?_) fun _ => ?_)
    · simp [encFs_len] at c
    · rw [stripss_encS]; simp [valuesOf]
  | cons x r ih =>
    intro pre acc ho hs ha
    have hlen : pre.length + 1 ≤ lim := by have := ho.1; simp at this; omega
    have hx := okFb_mem ho (f := x) (by simp)
    have hin : (inR (pre.length : Int) (encFs (pre ++ x :: r)).length && Nat.beq sz 2 && Nat.ble 1 sz) = true := by
      rw [encFs_len, inR_nat (by simp), Bool.true_and]
      exact hs.beq (by simp; omega) (by decide)
    refine t20b hT (ifP_intro (fun _ => gAnd_intro hin ⟨x.name, x.value, getE_fs _ _ _, x.name, nm, hx.1, Nat.le_trans hn (by decide), rfl, ifP_intro (fun b => gAnd_intro ?_ (gAnd_intro ?_ ?_)) fun b => gAnd_intro ?_ ?_⟩) fun c => ?_)
    · rw [encS_len, tag_ok rfl, decide_eq_true (by unfold lim at hlen; omega)]; rfl
    · rw [low_encFs, show encS acc ++ [[AV.str x.value]] = encS (acc ++ [x.value]) by simp [encS], low_encS]; rfl
    · rw [wrap_n (by omega), show encS acc ++ [[AV.str x.value]] = encS (acc ++ [x.value]) by simp [encS], encS_len]
      have := ih (pre ++ [x]) (acc ++ [x.value]) (by simpa using ho) (by simpa using hs) (by simpa using ha)
      rw [valuesOf_cons, if_pos b]
      simpa using this
    · rw [low_encFs, low_encS]; rfl
    · rw [wrap_n (by omega)]
      have := ih (pre ++ [x]) acc (by simpa using ho) (by simpa using hs) (by simp; omega)
      rw [valuesOf_cons, if_neg (by simp [b])]
      simpa using this
    · simp [encFs_len] at c; omega
theorem c54 : COk cfg 54 valuesC := by
  refine cok_pure pf54 fun vs h K ht => ?_
  obtain ⟨l, nm, sz, ho, hs, hn, rfl, hk⟩ := ht
  refine ⟨_, hk, t54a (ctab_ok (ctab_cons c56 ctab_nil)) ?_⟩
  have := loop54 hn l [] [] 0 ho hs (Nat.le_refl _)
  exact this
theorem c20 : COk cfg 20 valuesB := by
  refine cok_pure pf20 fun vs h K ht => ?_
  obtain ⟨l, nm, sz, ho, hs, hn, rfl, hk⟩ := ht
  refine ⟨_, hk, t20a (ctab_ok (ctab_cons c35 ctab_nil)) ?_⟩
  exact loop20 hn l [] [] ho hs (Nat.le_refl _)

/-! Numbers -/
theorem dgV_le : ∀ (r : List UInt8) (n k : Nat), n < 10 ^ k → r.all dgB = true → dgV n r < 10 ^ (k + r.length)
  | [], n, k, h, _ => by
    show n < 10 ^ (k + 0)
    exact h
  | c :: r, n, k, h, hd => by
    simp only [List.all_cons, Bool.and_eq_true, dgB, decide_eq_true_eq] at hd
    show dgV (10 * n + (c.toNat - 48)) r < _
    have := dgV_le r (10 * n + (c.toNat - 48)) (k + 1) (by rw [Nat.pow_succ]; omega) hd.2
    rw [show k + (c :: r).length = k + 1 + r.length by simp; omega]
    exact this
theorem dg_int {c : UInt8} (h0 : 48 ≤ c.toNat) (h1 : c.toNat ≤ 57) : IntKind.wrap .i64 (IntKind.wrap .u8 ((c.toNat : Int) - 48)) = ((c.toNat - 48 : Nat) : Int) := by
  rw [wrap_u8 (by omega) (by omega), wrap_in (by omega) (by omega)]; omega
theorem loop57 : ∀ (r pre : List UInt8) (n : Nat), (pre ++ r).length ≤ 18 → n < 10 ^ pre.length →
    ToEnd cfg 57 (bodyOf Tryd.f57) (RetIs Tryd.prog Tryd.f57 (.tup [.int .i64 (if r.all dgB = true then (dgV n r : Nat) else 0), .bool (r.all dgB)])) [.code [0, 1, 0, 1, 1, 1], .block 0, .code [1, 1, 1, 1]] .normal
      [(0, true, .str (pre ++ r)), (4, true, .int .i64 n), (5, true, .int .i64 pre.length)] [] := by
  intro r
  induction r with
  | nil =>
    intro pre n hl hn
    refine t57b (ctab_ok ctab_nil) (ifP_intro (fun c => ?_) fun _ => rfl)
    simp at c
  | cons x r ih =>
    intro pre n hl hn
    have hlen : pre.length + 1 ≤ 18 := by simp at hl; omega
    have hx := x.toNat_lt
    have no : dgB x = false → (AV.tup [.int .i64 0, .bool false] = AV.tup [.int .i64 (if (x :: r).all dgB = true then (dgV n (x :: r) : Nat) else 0), .bool ((x :: r).all dgB)]) := fun h => by
      rw [List.all_cons, h]; rfl
    refine t57b (ctab_ok ctab_nil) (ifP_intro (fun _ => ?_) fun c => ?_)
    · rw [at_pre]
      refine gAnd_intro (inR_nat (by simp)) (ifP_intro (fun b => no ?_) fun b => gAnd_intro (inR_nat (by simp)) (ifP_intro (fun c => no ?_) fun c => gAnd_intro (inR_nat (by simp)) ?_))
      · simp only [decide_eq_true_eq] at b
        simp [dgB]; omega
      · simp only [decide_eq_true_eq, gt_iff_lt] at c
        simp [dgB]; omega
      · simp only [decide_eq_false_iff_not, gt_iff_lt] at b c
        have hd : dgB x = true := by
          unfold dgB
          rw [decide_eq_true (by omega), decide_eq_true (by omega)]; rfl
        have hp : 10 ^ pre.length ≤ 10 ^ 17 := Nat.pow_le_pow_right (by decide) (by omega)
        have e17 : (10 : Nat) ^ 17 = 100000000000000000 := by decide
        rw [dg_int (by omega) (by omega), wrap_n (by unfold lim; omega), wrap_in (n := 10 * (n : Int)) (by omega) (by omega), wrap_in (by omega) (by omega)]
        have := ih (pre ++ [x]) (10 * n + (x.toNat - 48)) (by simpa using hl) (by rw [List.length_append, List.length_singleton, Nat.pow_succ]; omega)
        rw [List.all_cons, hd, Bool.true_and]
        show ToEnd cfg 57 (bodyOf Tryd.f57) (RetIs Tryd.prog Tryd.f57 (.tup [.int .i64 (if r.all dgB = true then (dgV (10 * n + (x.toNat - 48)) r : Nat) else 0), .bool (r.all dgB)])) _ _ _ _
        simpa using this
    · simp at c; omega
theorem c57 : COk cfg 57 numC := by
  refine cok_pure pf57 fun vs h K ht => ?_
  obtain ⟨s, hl, rfl, hk⟩ := ht
  refine ⟨_, hk, t57a (ctab_ok ctab_nil) (ifP_intro (fun c => ?_) fun c => ifP_intro (fun d => ?_) fun d => ?_)⟩
  · have : s = [] := by cases s <;> simp_all; omega
    subst this; rfl
  · have : numB s = false := by
      simp only [gt_iff_lt, decide_eq_true_eq] at d
      simp [numB]; intro _ _; omega
    rw [this]; rfl
  · simp only [gt_iff_lt, decide_eq_false_iff_not] at d
    have hne : s.isEmpty = false := by cases s <;> simp_all
    have hb : numB s = s.all dgB := by
      unfold numB
      rw [hne, decide_eq_true (by omega)]; simp
    rw [hb]
    exact loop57 s [] 0 (by simp; omega) (by simp)

/-! The same fields; few of them -/
theorem sameFs_len : ∀ {a b : List Fld}, a.length ≠ b.length → sameFs a b = false
  | [], [], h => by simp at h
  | [], _ :: _, _ => rfl
  | _ :: _, [], _ => rfl
  | a :: r, b :: s, h => by simp only [sameFs, sameFs_len (a := r) (b := s) (by simpa using h), Bool.and_false]
theorem sameFs_refl : ∀ (a : List Fld), sameFs a a = true
  | [] => rfl
  | a :: r => by simp [sameFs, sameFs_refl r]
theorem loop17 {sz sy : Nat} : ∀ (r s pre pre' : List Fld), pre.length = pre'.length → r.length = s.length → (pre ++ r).length ≤ lim → szOk sz 2 (pre ++ r).length → szOk sy 2 (pre' ++ s).length →
    ToEnd cfg 17 (bodyOf Tryd.f17) (RetIs Tryd.prog Tryd.f17 (.bool (sameFs r s))) [.code [0, 1, 0, 1, 1], .block 0, .code [1, 1, 1]] .normal
      [(0, true, .sl sz (encFs (pre ++ r)) none), (1, true, .sl sy (encFs (pre' ++ s)) none), (5, true, .int .i64 pre.length)] [] := by
  intro r
  induction r with
  | nil =>
    intro s pre pre' hp hr hl h1 h2
    obtain rfl : s = [] := by simpa using hr.symm
    refine t17b (ctab_ok ctab_nil) (ifP_intro (fun c => ?_) fun _ => rfl)
    simp [encFs_len] at c
  | cons x r ih =>
    intro s pre pre' hp hr hl h1 h2
    obtain ⟨y, s, rfl⟩ : ∃ y s', s = y :: s' := by cases s with | nil => simp at hr | cons y s => exact ⟨y, s, rfl⟩
    have hlen : pre.length ≤ lim := by simp at hl; omega
    have hin : (inR (pre.length : Int) (encFs (pre ++ x :: r)).length && Nat.beq sz 2 && Nat.ble 1 sz) = true := by
      rw [encFs_len, inR_nat (by simp), Bool.true_and]
      exact h1.beq (by simp; omega) (by decide)
    have hin' : (inR (pre.length : Int) (encFs (pre' ++ y :: s)).length && Nat.beq sy 2 && Nat.ble 1 sy) = true := by
      rw [encFs_len, inR_nat (by simp; omega), Bool.true_and]
      exact h2.beq (by simp; omega) (by decide)
    refine t17b (ctab_ok ctab_nil) (ifP_intro (fun _ => gAnd_intro hin ⟨x.name, x.value, getE_fs _ _ _, gAnd_intro hin' ⟨y.name, y.value, by rw [hp]; exact getE_fs _ _ _, ifP_intro (fun b => ?_) fun b => ?_⟩⟩) fun c => ?_)
    · simp only [Bool.not_eq_true'] at b
      rw [sameFs, b]; rfl
    · simp only [Bool.not_eq_false'] at b
      rw [sameFs, b, Bool.true_and, wrap_n hlen]
      have := ih s (pre ++ [x]) (pre' ++ [y]) (by simpa using hp) (by simpa using hr) (by simpa using hl) (by simpa using h1) (by simpa using h2)
      simpa using this
    · simp [encFs_len] at c; omega
theorem c17 : COk cfg 17 sameFsC := by
  refine cok_pure pf17 fun vs h K ht => ?_
  obtain ⟨a, b, sz, sy, hl, h1, h2, rfl, hk⟩ := ht
  refine ⟨_, hk, t17a (ctab_ok ctab_nil) (ifP_intro (fun c => ?_) fun c => ?_)⟩
  · rw [sameFs_len (by intro e; simp [encFs_len, e] at c)]
  · exact loop17 a b [] [] rfl (by simpa [encFs_len, bne, Int.ofNat_inj] using c) hl h1 h2

theorem fewG_ok : ∀ (l : List Fld) (n : Int), fewG n l = true → ∀ f ∈ l, (f.name.length : Int) + f.value.length ≤ n
  | [], _, _, f, hf => by cases hf
  | x :: r, n, h, f, hf => by
    rw [fewG] at h
    split at h
    · cases h
    · rename_i hc
      rcases List.mem_cons.1 hf with rfl | hf
      · omega
      · have := fewG_ok r _ h f hf
        omega
theorem fewB_ok {l : List Fld} (h : fewB l = true) : okFs l := by
  unfold fewB at h
  split at h
  · cases h
  · refine ⟨by unfold lim; omega, fun f hf => ?_⟩
    have := fewG_ok l 12000 h f hf
    unfold lim
    omega
theorem loop13 {sz : Nat} : ∀ (r pre : List Fld) (n : Int), 0 ≤ n → n ≤ 12000 → (pre ++ r).length ≤ 80 → szOk sz 2 (pre ++ r).length → (∀ f ∈ r, (f.name.length : Int) ≤ 9223372036854775807) →
    ToEnd cfg 13 (bodyOf Tryd.f13) (RetIs Tryd.prog Tryd.f13 (.bool (fewG n r))) [.code [0, 1, 0, 1, 1, 1], .block 0, .code [1, 1, 1, 1]] .normal
      [(0, true, .sl sz (encFs (pre ++ r)) none), (3, true, .int .i64 n), (4, true, .int .i64 pre.length)] [] := by
  intro r
  induction r with
  | nil =>
    intro pre n h0 h1 hl hs _
    refine t13b (ctab_ok ctab_nil) (ifP_intro (fun c => ?_) fun _ => rfl)
    simp [encFs_len] at c
  | cons x r ih =>
    intro pre n h0 h1 hl hs hb
    have hlen : pre.length ≤ 80 := by simp at hl; omega
    have hx := hb x (by simp)
    have hin : (inR (pre.length : Int) (encFs (pre ++ x :: r)).length && Nat.beq sz 2 && Nat.ble 1 sz) = true := by
      rw [encFs_len, inR_nat (by simp), Bool.true_and]
      exact hs.beq (by simp; omega) (by decide)
    refine t13b (ctab_ok ctab_nil) (ifP_intro (fun _ => gAnd_intro hin ⟨x.name, x.value, getE_fs _ _ _, ifP_intro (fun b => ?_) fun b => gAnd_intro hin ⟨x.name, x.value, getE_fs _ _ _, gAnd_intro hin ⟨x.name, x.value, getE_fs _ _ _, ifP_intro (fun c => ?_) fun c => gAnd_intro hin ⟨x.name, x.value, getE_fs _ _ _, gAnd_intro hin ⟨x.name, x.value, getE_fs _ _ _, ?_⟩⟩⟩⟩⟩) fun c => ?_)
    · simp only [decide_eq_true_eq] at b
      rw [fewG, if_pos (.inl b)]
    · simp only [decide_eq_false_iff_not] at b
      rw [wrap_in (by omega) (by omega)] at c
      simp only [decide_eq_true_eq] at c
      rw [fewG, if_pos (.inr c)]
    · simp only [decide_eq_false_iff_not] at b
      rw [wrap_in (by omega) (by omega)] at c
      simp only [decide_eq_false_iff_not] at c
      rw [fewG, if_neg (by omega), wrap_n (by unfold lim; omega), wrap_in (n := n - (x.name.length : Int)) (by omega) (by omega), wrap_in (by omega) (by omega)]
      have := ih (pre ++ [x]) (n - x.name.length - x.value.length) (by omega) (by omega) (by simpa using hl) (by simpa using hs) (fun f hf => hb f (by simp [hf]))
      simpa using this
    · simp [encFs_len] at c; omega
theorem c13 : COk cfg 13 fewC := by
  refine cok_pure pf13 fun vs h K ht => ?_
  obtain ⟨l, sz, hs, hb, rfl, hk⟩ := ht
  refine ⟨_, hk, t13a (ctab_ok ctab_nil) (ifP_intro (fun c => ?_) fun c => ?_)⟩
  · rw [encFs_len] at c
    simp only [gt_iff_lt, decide_eq_true_eq] at c
    rw [fewB, if_pos (by omega)]
  · rw [encFs_len] at c
    simp only [gt_iff_lt, decide_eq_false_iff_not] at c
    rw [fewB, if_neg (by omega)]
    exact loop13 l [] 12000 (by omega) (by omega) (by simp; omega) hs hb
end Go.Proofs.YtnncfdlpogjlkaaDoor
end
