/-
  Runs of functions of bodies in chunks, printed by a home tool; each is the kernel's word.
  A number put in hexadecimal digits: the functions keep to their contracts.
  Runs of functions of bodies in chunks, printed by a home tool; each is the kernel's word.
  A body put in chunks: both functions keep to their contract.
-/
import Derived.Test.YtnncfdlpogjlkaaDoorCfg
import Derived.Test.YtnncfdlpogjlkaaDoorJCa
import Derived.Test.YtnncfdlpogjlkaaDoorJCc
import Derived.Laws.BitsAllLaws
import Derived.Test.YtnncfdlpogjlkaaDoorJCd
section
namespace Go.Proofs.YtnncfdlpogjlkaaDoor
open Go.Ai Go
set_option maxRecDepth 100000
set_option linter.unusedVariables false
theorem t121 {v : AV} (hT : TabOk cfg (ctab [])) (H :
    AV.bool true = v) :
    ToEnd cfg 121 (bodyOf Tryd.f121) (RetIs Tryd.prog Tryd.f121 v) ([.code []]) .normal ([(0, true, .int .i64 16)]) ([]) := by
  have e : unr cfg 121 (bodyOf Tryd.f121) (ctab []) ⟨[], []⟩ (RetIs Tryd.prog Tryd.f121 v) 100000 ([.code []]) .normal ([(0, true, .int .i64 16)]) ([]) =
    (AV.bool true = v) := by kernel_rfl
  exact unr_ok hT 100000 _ _ _ _ (e.mpr H)

theorem t136 {v : AV} (hT : TabOk cfg (ctab [])) (H :
    AV.int IntKind.i64 4 = v) :
    ToEnd cfg 136 (bodyOf Tryd.f136) (RetIs Tryd.prog Tryd.f136 v) ([.code []]) .normal ([(0, true, .int .u64 16)]) ([]) := by
  have e : unr cfg 136 (bodyOf Tryd.f136) (ctab []) ⟨[], []⟩ (RetIs Tryd.prog Tryd.f136 v) 100000 ([.code []]) .normal ([(0, true, .int .u64 16)]) ([]) =
    (AV.int IntKind.i64 4 = v) := by kernel_rfl
  exact unr_ok hT 100000 _ _ _ _ (e.mpr H)

theorem t122 {v : AV} (hT : TabOk cfg (ctab [(136, tzC)])) (H :
    [AV.int IntKind.u64 16] = [AV.int IntKind.u64 16] ∧ AV.int IntKind.i64 4 = v) :
    ToEnd cfg 122 (bodyOf Tryd.f122) (RetIs Tryd.prog Tryd.f122 v) ([.code []]) .normal ([(0, true, .int .u64 16)]) ([]) := by
  have e : unr cfg 122 (bodyOf Tryd.f122) (ctab [(136, tzC)]) ⟨[], []⟩ (RetIs Tryd.prog Tryd.f122 v) 100000 ([.code []]) .normal ([(0, true, .int .u64 16)]) ([]) =
    ([AV.int IntKind.u64 16] = [AV.int IntKind.u64 16] ∧ AV.int IntKind.i64 4 = v) := by kernel_rfl
  exact unr_ok hT 100000 _ _ _ _ (e.mpr H)

theorem t98a {v : AV} {n : Int} (hT : TabOk cfg (ctab [(121, powC), (122, tzC)])) (H :
    [AV.int IntKind.i64 16] = [AV.int IntKind.i64 16] ∧ [AV.int IntKind.u64 16] = [AV.int IntKind.u64 16] ∧ ToEnd cfg 98 (bodyOf Tryd.f98) (RetIs Tryd.prog Tryd.f98 v) [Fm.code [0, 0, 1, 1, 1, 0, 1, 0, 1, 1, 1, 1, 1], Fm.block 0, Fm.code [1, 1, 1, 1, 0, 1, 0, 1, 1, 1, 1, 1], Fm.code [1, 1, 1, 1, 1, 1]] XT.normal [(0, true, AV.sl 0 [] none), (1, true, AV.int IntKind.u64 n), (3, true, AV.bool false), (4, true, AV.bool false), (10, true, AV.sl 1 [] (some 0)), (11, true, AV.str []), (12, true, AV.ptr 1 0), (13, true, AV.int IntKind.i64 65), (14, true, AV.int IntKind.u64 4), (15, true, AV.int IntKind.u64 16), (16, true, AV.int IntKind.u64 15)] [Blk.grow 0 1 5, Blk.mem 153 [AV.int IntKind.u8 0, AV.int IntKind.u8 0, AV.int IntKind.u8 0, AV.int IntKind.u8 0, AV.int IntKind.u8 0, AV.int IntKind.u8 0, AV.int IntKind.u8 0, AV.int IntKind.u8 0, AV.int IntKind.u8 0, AV.int IntKind.u8 0, AV.int IntKind.u8 0, AV.int IntKind.u8 0, AV.int IntKind.u8 0, AV.int IntKind.u8 0, AV.int IntKind.u8 0, AV.int IntKind.u8 0, AV.int IntKind.u8 0, AV.int IntKind.u8 0, AV.int IntKind.u8 0, AV.int IntKind.u8 0, AV.int IntKind.u8 0, AV.int IntKind.u8 0, AV.int IntKind.u8 0, AV.int IntKind.u8 0, AV.int IntKind.u8 0, AV.int IntKind.u8 0, AV.int IntKind.u8 0, AV.int IntKind.u8 0, AV.int IntKind.u8 0, AV.int IntKind.u8 0, AV.int IntKind.u8 0, AV.int IntKind.u8 0, AV.int IntKind.u8 0, AV.int IntKind.u8 0, AV.int IntKind.u8 0, AV.int IntKind.u8 0, AV.int IntKind.u8 0, AV.int IntKind.u8 0, AV.int IntKind.u8 0, AV.int IntKind.u8 0, AV.int IntKind.u8 0, AV.int IntKind.u8 0, AV.int IntKind.u8 0, AV.int IntKind.u8 0, AV.int IntKind.u8 0, AV.int IntKind.u8 0, AV.int IntKind.u8 0, AV.int IntKind.u8 0, AV.int IntKind.u8 0, AV.int IntKind.u8 0, AV.int IntKind.u8 0, AV.int IntKind.u8 0, AV.int IntKind.u8 0, AV.int IntKind.u8 0, AV.int IntKind.u8 0, AV.int IntKind.u8 0, AV.int IntKind.u8 0, AV.int IntKind.u8 0, AV.int IntKind.u8 0, AV.int IntKind.u8 0, AV.int IntKind.u8 0, AV.int IntKind.u8 0, AV.int IntKind.u8 0, AV.int IntKind.u8 0, AV.int IntKind.u8 0]]) :
    ToEnd cfg 98 (bodyOf Tryd.f98) (RetIs Tryd.prog Tryd.f98 v) ([.code []]) .normal ([(0, true, .sl 0 [] none), (1, true, .int .u64 n), (2, true, .int .i64 16), (3, true, .bool false), (4, true, .bool false)]) ([]) := by
  have e : unr cfg 98 (bodyOf Tryd.f98) (ctab [(121, powC), (122, tzC)]) ⟨[[0, 0, 1, 1, 1, 0, 1, 0, 1, 1, 1, 1, 1], [0, 0, 1, 1, 1, 0, 1, 1, 1, 1, 1]], []⟩ (RetIs Tryd.prog Tryd.f98 v) 100000 ([.code []]) .normal ([(0, true, .sl 0 [] none), (1, true, .int .u64 n), (2, true, .int .i64 16), (3, true, .bool false), (4, true, .bool false)]) ([]) =
    ([AV.int IntKind.i64 16] = [AV.int IntKind.i64 16] ∧ [AV.int IntKind.u64 16] = [AV.int IntKind.u64 16] ∧ ToEnd cfg 98 (bodyOf Tryd.f98) (RetIs Tryd.prog Tryd.f98 v) [Fm.code [0, 0, 1, 1, 1, 0, 1, 0, 1, 1, 1, 1, 1], Fm.block 0, Fm.code [1, 1, 1, 1, 0, 1, 0, 1, 1, 1, 1, 1], Fm.code [1, 1, 1, 1, 1, 1]] XT.normal [(0, true, AV.sl 0 [] none), (1, true, AV.int IntKind.u64 n), (3, true, AV.bool false), (4, true, AV.bool false), (10, true, AV.sl 1 [] (some 0)), (11, true, AV.str []), (12, true, AV.ptr 1 0), (13, true, AV.int IntKind.i64 65), (14, true, AV.int IntKind.u64 4), (15, true, AV.int IntKind.u64 16), (16, true, AV.int IntKind.u64 15)] [Blk.grow 0 1 5, Blk.mem 153 [AV.int IntKind.u8 0, AV.int IntKind.u8 0, AV.int IntKind.u8 0, AV.int IntKind.u8 0, AV.int IntKind.u8 0, AV.int IntKind.u8 0, AV.int IntKind.u8 0, AV.int IntKind.u8 0, AV.int IntKind.u8 0, AV.int IntKind.u8 0, AV.int IntKind.u8 0, AV.int IntKind.u8 0, AV.int IntKind.u8 0, AV.int IntKind.u8 0, AV.int IntKind.u8 0, AV.int IntKind.u8 0, AV.int IntKind.u8 0, AV.int IntKind.u8 0, AV.int IntKind.u8 0, AV.int IntKind.u8 0, AV.int IntKind.u8 0, AV.int IntKind.u8 0, AV.int IntKind.u8 0, AV.int IntKind.u8 0, AV.int IntKind.u8 0, AV.int IntKind.u8 0, AV.int IntKind.u8 0, AV.int IntKind.u8 0, AV.int IntKind.u8 0, AV.int IntKind.u8 0, AV.int IntKind.u8 0, AV.int IntKind.u8 0, AV.int IntKind.u8 0, AV.int IntKind.u8 0, AV.int IntKind.u8 0, AV.int IntKind.u8 0, AV.int IntKind.u8 0, AV.int IntKind.u8 0, AV.int IntKind.u8 0, AV.int IntKind.u8 0, AV.int IntKind.u8 0, AV.int IntKind.u8 0, AV.int IntKind.u8 0, AV.int IntKind.u8 0, AV.int IntKind.u8 0, AV.int IntKind.u8 0, AV.int IntKind.u8 0, AV.int IntKind.u8 0, AV.int IntKind.u8 0, AV.int IntKind.u8 0, AV.int IntKind.u8 0, AV.int IntKind.u8 0, AV.int IntKind.u8 0, AV.int IntKind.u8 0, AV.int IntKind.u8 0, AV.int IntKind.u8 0, AV.int IntKind.u8 0, AV.int IntKind.u8 0, AV.int IntKind.u8 0, AV.int IntKind.u8 0, AV.int IntKind.u8 0, AV.int IntKind.u8 0, AV.int IntKind.u8 0, AV.int IntKind.u8 0, AV.int IntKind.u8 0]]) := by kernel_rfl
  exact unr_ok hT 100000 _ _ _ _ (e.mpr H)

theorem t50 {v : AV} {n : Int} (hT : TabOk cfg (ctab [(73, hexPC)])) (H :
    ∃ (n1 : Nat), n1 ≤ 10000000 ∧ [AV.int IntKind.i64 n, AV.int IntKind.i64 16] = [AV.int IntKind.i64 (↑n1 : Int), AV.int IntKind.i64 16] ∧ AV.str (hexT n1) = v) :
    ToEnd cfg 50 (bodyOf Tryd.f50) (RetIs Tryd.prog Tryd.f50 v) ([.code []]) .normal ([(0, true, .int .i64 n), (1, true, .int .i64 16)]) ([]) := by
  have e : unr cfg 50 (bodyOf Tryd.f50) (ctab [(73, hexPC)]) ⟨[], []⟩ (RetIs Tryd.prog Tryd.f50 v) 100000 ([.code []]) .normal ([(0, true, .int .i64 n), (1, true, .int .i64 16)]) ([]) =
    (∃ (n1 : Nat), n1 ≤ 10000000 ∧ [AV.int IntKind.i64 n, AV.int IntKind.i64 16] = [AV.int IntKind.i64 (↑n1 : Int), AV.int IntKind.i64 16] ∧ AV.str (hexT n1) = v) := by kernel_rfl
  exact unr_ok hT 100000 _ _ _ _ (e.mpr H)

theorem t98b {v : AV} {n i : Int} {cs : List AV} (hT : TabOk cfg (ctab [(121, powC), (122, tzC)])) (H :
    ifP (decide (n ≥ 16)) (gAnd (inR (bits BinOp.and IntKind.u64 n 15) 36) (gAnd (inR (IntKind.wrap IntKind.i64 (i - 1)) 65 && true) (gAnd (Nat.ble (0 + Int.toNat (IntKind.wrap IntKind.i64 (i - 1)) * 1 + 1) (List.length cs)) (ToEnd cfg 98 (bodyOf Tryd.f98) (RetIs Tryd.prog Tryd.f98 v) [Fm.code [0, 0, 1, 1, 1, 0, 1, 0, 1, 1, 1, 1, 1], Fm.block 0, Fm.code [1, 1, 1, 1, 0, 1, 0, 1, 1, 1, 1, 1], Fm.code [1, 1, 1, 1, 1, 1]] XT.normal [(0, true, AV.sl 0 [] none), (1, true, AV.int IntKind.u64 (Int.fdiv n 16)), (3, true, AV.bool false), (4, true, AV.bool false), (10, true, AV.sl 1 [] (some 0)), (11, true, AV.str []), (12, true, AV.ptr 1 0), (13, true, AV.int IntKind.i64 (IntKind.wrap IntKind.i64 (i - 1))), (14, true, AV.int IntKind.u64 4), (15, true, AV.int IntKind.u64 16), (16, true, AV.int IntKind.u64 15)] [Blk.grow 0 1 5, Blk.mem 153 (splice cs (0 + Int.toNat (IntKind.wrap IntKind.i64 (i - 1)) * 1) [AV.int IntKind.u8 (↑(UInt8.toNat (List.getD [48, 49, 50, 51, 52, 53, 54, 55, 56, 57, 97, 98, 99, 100, 101, 102, 103, 104, 105, 106, 107, 108, 109, 110, 111, 112, 113, 114, 115, 116, 117, 118, 119, 120, 121, 122] (Int.toNat (bits BinOp.and IntKind.u64 n 15)) 0)) : Int)])])))) (gAnd (inR n 36) (gAnd (inR (IntKind.wrap IntKind.i64 (i - 1)) 65 && true) (gAnd (Nat.ble (0 + Int.toNat (IntKind.wrap IntKind.i64 (i - 1)) * 1 + 1) (List.length cs)) (gAnd (decide (0 ≤ IntKind.wrap IntKind.i64 (i - 1)) && decide (IntKind.wrap IntKind.i64 (i - 1) < 65) && true && Nat.ble 65 (List.length (splice cs (0 + Int.toNat (IntKind.wrap IntKind.i64 (i - 1)) * 1) [AV.int IntKind.u8 (↑(UInt8.toNat (List.getD [48, 49, 50, 51, 52, 53, 54, 55, 56, 57, 97, 98, 99, 100, 101, 102, 103, 104, 105, 106, 107, 108, 109, 110, 111, 112, 113, 114, 115, 116, 117, 118, 119, 120, 121, 122] (Int.toNat n) 0)) : Int)])) && true) (gAnd (cellsB (List.take (65 - Int.toNat (IntKind.wrap IntKind.i64 (i - 1))) (List.drop (0 + Int.toNat (IntKind.wrap IntKind.i64 (i - 1)) * 1) (splice cs (0 + Int.toNat (IntKind.wrap IntKind.i64 (i - 1)) * 1) [AV.int IntKind.u8 (↑(UInt8.toNat (List.getD [48, 49, 50, 51, 52, 53, 54, 55, 56, 57, 97, 98, 99, 100, 101, 102, 103, 104, 105, 106, 107, 108, 109, 110, 111, 112, 113, 114, 115, 116, 117, 118, 119, 120, 121, 122] (Int.toNat n) 0)) : Int)])))) (AV.tup [AV.sl 1 [] none, AV.str (List.map cellV (List.take (65 - Int.toNat (IntKind.wrap IntKind.i64 (i - 1))) (List.drop (0 + Int.toNat (IntKind.wrap IntKind.i64 (i - 1)) * 1) (splice cs (0 + Int.toNat (IntKind.wrap IntKind.i64 (i - 1)) * 1) [AV.int IntKind.u8 (↑(UInt8.toNat (List.getD [48, 49, 50, 51, 52, 53, 54, 55, 56, 57, 97, 98, 99, 100, 101, 102, 103, 104, 105, 106, 107, 108, 109, 110, 111, 112, 113, 114, 115, 116, 117, 118, 119, 120, 121, 122] (Int.toNat n) 0)) : Int)]))))] = v))))))) :
    ToEnd cfg 98 (bodyOf Tryd.f98) (RetIs Tryd.prog Tryd.f98 v) ([.code [0, 0, 1, 1, 1, 0, 1, 0, 1, 1, 1, 1, 1], .block 0, .code [1, 1, 1, 1, 0, 1, 0, 1, 1, 1, 1, 1], .code [1, 1, 1, 1, 1, 1]]) .normal ([(0, true, .sl 0 [] none), (1, true, .int .u64 n), (3, true, .bool false), (4, true, .bool false), (10, true, .sl 1 [] (some 0)), (11, true, .str []), (12, true, .ptr 1 0), (13, true, .int .i64 i), (14, true, .int .u64 4), (15, true, .int .u64 16), (16, true, .int .u64 15)]) ([.grow 0 1 5, .mem 153 cs]) := by
  have e : unr cfg 98 (bodyOf Tryd.f98) (ctab [(121, powC), (122, tzC)]) ⟨[[0, 0, 1, 1, 1, 0, 1, 0, 1, 1, 1, 1, 1], [0, 0, 1, 1, 1, 0, 1, 1, 1, 1, 1]], []⟩ (RetIs Tryd.prog Tryd.f98 v) 100000 ([.code [0, 0, 0, 1, 1, 1, 0, 1, 0, 1, 1, 1, 1, 1], .loop [0, 0, 1, 1, 1, 0, 1, 0, 1, 1, 1, 1, 1] 2, .block 0, .code [1, 1, 1, 1, 0, 1, 0, 1, 1, 1, 1, 1], .code [1, 1, 1, 1, 1, 1]]) .normal ([(0, true, .sl 0 [] none), (1, true, .int .u64 n), (3, true, .bool false), (4, true, .bool false), (10, true, .sl 1 [] (some 0)), (11, true, .str []), (12, true, .ptr 1 0), (13, true, .int .i64 i), (14, true, .int .u64 4), (15, true, .int .u64 16), (16, true, .int .u64 15)]) ([.grow 0 1 5, .mem 153 cs]) =
    (ifP (decide (n ≥ 16)) (gAnd (inR (bits BinOp.and IntKind.u64 n 15) 36) (gAnd (inR (IntKind.wrap IntKind.i64 (i - 1)) 65 && true) (gAnd (Nat.ble (0 + Int.toNat (IntKind.wrap IntKind.i64 (i - 1)) * 1 + 1) (List.length cs)) (ToEnd cfg 98 (bodyOf Tryd.f98) (RetIs Tryd.prog Tryd.f98 v) [Fm.code [0, 0, 1, 1, 1, 0, 1, 0, 1, 1, 1, 1, 1], Fm.block 0, Fm.code [1, 1, 1, 1, 0, 1, 0, 1, 1, 1, 1, 1], Fm.code [1, 1, 1, 1, 1, 1]] XT.normal [(0, true, AV.sl 0 [] none), (1, true, AV.int IntKind.u64 (Int.fdiv n 16)), (3, true, AV.bool false), (4, true, AV.bool false), (10, true, AV.sl 1 [] (some 0)), (11, true, AV.str []), (12, true, AV.ptr 1 0), (13, true, AV.int IntKind.i64 (IntKind.wrap IntKind.i64 (i - 1))), (14, true, AV.int IntKind.u64 4), (15, true, AV.int IntKind.u64 16), (16, true, AV.int IntKind.u64 15)] [Blk.grow 0 1 5, Blk.mem 153 (splice cs (0 + Int.toNat (IntKind.wrap IntKind.i64 (i - 1)) * 1) [AV.int IntKind.u8 (↑(UInt8.toNat (List.getD [48, 49, 50, 51, 52, 53, 54, 55, 56, 57, 97, 98, 99, 100, 101, 102, 103, 104, 105, 106, 107, 108, 109, 110, 111, 112, 113, 114, 115, 116, 117, 118, 119, 120, 121, 122] (Int.toNat (bits BinOp.and IntKind.u64 n 15)) 0)) : Int)])])))) (gAnd (inR n 36) (gAnd (inR (IntKind.wrap IntKind.i64 (i - 1)) 65 && true) (gAnd (Nat.ble (0 + Int.toNat (IntKind.wrap IntKind.i64 (i - 1)) * 1 + 1) (List.length cs)) (gAnd (decide (0 ≤ IntKind.wrap IntKind.i64 (i - 1)) && decide (IntKind.wrap IntKind.i64 (i - 1) < 65) && true && Nat.ble 65 (List.length (splice cs (0 + Int.toNat (IntKind.wrap IntKind.i64 (i - 1)) * 1) [AV.int IntKind.u8 (↑(UInt8.toNat (List.getD [48, 49, 50, 51, 52, 53, 54, 55, 56, 57, 97, 98, 99, 100, 101, 102, 103, 104, 105, 106, 107, 108, 109, 110, 111, 112, 113, 114, 115, 116, 117, 118, 119, 120, 121, 122] (Int.toNat n) 0)) : Int)])) && true) (gAnd (cellsB (List.take (65 - Int.toNat (IntKind.wrap IntKind.i64 (i - 1))) (List.drop (0 + Int.toNat (IntKind.wrap IntKind.i64 (i - 1)) * 1) (splice cs (0 + Int.toNat (IntKind.wrap IntKind.i64 (i - 1)) * 1) [AV.int IntKind.u8 (↑(UInt8.toNat (List.getD [48, 49, 50, 51, 52, 53, 54, 55, 56, 57, 97, 98, 99, 100, 101, 102, 103, 104, 105, 106, 107, 108, 109, 110, 111, 112, 113, 114, 115, 116, 117, 118, 119, 120, 121, 122] (Int.toNat n) 0)) : Int)])))) (AV.tup [AV.sl 1 [] none, AV.str (List.map cellV (List.take (65 - Int.toNat (IntKind.wrap IntKind.i64 (i - 1))) (List.drop (0 + Int.toNat (IntKind.wrap IntKind.i64 (i - 1)) * 1) (splice cs (0 + Int.toNat (IntKind.wrap IntKind.i64 (i - 1)) * 1) [AV.int IntKind.u8 (↑(UInt8.toNat (List.getD [48, 49, 50, 51, 52, 53, 54, 55, 56, 57, 97, 98, 99, 100, 101, 102, 103, 104, 105, 106, 107, 108, 109, 110, 111, 112, 113, 114, 115, 116, 117, 118, 119, 120, 121, 122] (Int.toNat n) 0)) : Int)]))))] = v))))))) := by kernel_rfl
  exact ends_round hT 100000 (by kernel_rfl) (e.mpr H)

theorem t73 {v : AV} {n : Int} (hT : TabOk cfg (ctab [(98, fbC)])) (H :
    ∃ (n1 : Nat), n1 ≤ 10000000 ∧ [AV.sl 0 [] none, AV.int IntKind.u64 (IntKind.wrap IntKind.u64 n), AV.int IntKind.i64 16, AV.bool (decide (n < 0)), AV.bool false] = [AV.sl 0 [] none, AV.int IntKind.u64 (↑n1 : Int), AV.int IntKind.i64 16, AV.bool false, AV.bool false] ∧ AV.str (hexT n1) = v) :
    ToEnd cfg 73 (bodyOf Tryd.f73) (RetIs Tryd.prog Tryd.f73 v) ([.code []]) .normal ([(0, true, .int .i64 n), (1, true, .int .i64 16)]) ([]) := by
  have e : unr cfg 73 (bodyOf Tryd.f73) (ctab [(98, fbC)]) ⟨[], []⟩ (RetIs Tryd.prog Tryd.f73 v) 100000 ([.code []]) .normal ([(0, true, .int .i64 n), (1, true, .int .i64 16)]) ([]) =
    (∃ (n1 : Nat), n1 ≤ 10000000 ∧ [AV.sl 0 [] none, AV.int IntKind.u64 (IntKind.wrap IntKind.u64 n), AV.int IntKind.i64 16, AV.bool (decide (n < 0)), AV.bool false] = [AV.sl 0 [] none, AV.int IntKind.u64 (↑n1 : Int), AV.int IntKind.i64 16, AV.bool false, AV.bool false] ∧ AV.str (hexT n1) = v) := by kernel_rfl
  exact unr_ok hT 100000 _ _ _ _ (e.mpr H)

end Go.Proofs.YtnncfdlpogjlkaaDoor
end

section
namespace Go.Proofs.YtnncfdlpogjlkaaDoor
open Go.Ai Go
set_option linter.unusedSimpArgs false
set_option linter.unusedVariables false
set_option linter.unnecessarySimpa false
set_option maxRecDepth 100000

theorem pf121 : pureFn cfg 121 Tryd.f121 := ⟨by kernel_rfl, by kernel_rfl, by kernel_rfl, by kernel_rfl, by kernel_rfl, by kernel_rfl⟩
theorem pf122 : pureFn cfg 122 Tryd.f122 := ⟨by kernel_rfl, by kernel_rfl, by kernel_rfl, by kernel_rfl, by kernel_rfl, by kernel_rfl⟩
theorem pf136 : pureFn cfg 136 Tryd.f136 := ⟨by kernel_rfl, by kernel_rfl, by kernel_rfl, by kernel_rfl, by kernel_rfl, by kernel_rfl⟩
theorem pf98 : pureFn cfg 98 Tryd.f98 := ⟨by kernel_rfl, by kernel_rfl, by kernel_rfl, by kernel_rfl, by kernel_rfl, by kernel_rfl⟩
theorem pf73 : pureFn cfg 73 Tryd.f73 := ⟨by kernel_rfl, by kernel_rfl, by kernel_rfl, by kernel_rfl, by kernel_rfl, by kernel_rfl⟩
theorem pf50 : pureFn cfg 50 Tryd.f50 := ⟨by kernel_rfl, by kernel_rfl, by kernel_rfl, by kernel_rfl, by kernel_rfl, by kernel_rfl⟩
theorem c121 : COk cfg 121 powC := by
  refine cok_pure pf121 fun vs h K ht => ?_
  obtain ⟨rfl, hk⟩ := ht
  exact ⟨_, hk, t121 (ctab_ok ctab_nil) rfl⟩
theorem c136 : COk cfg 136 tzC := by
  refine cok_pure pf136 fun vs h K ht => ?_
  obtain ⟨rfl, hk⟩ := ht
  exact ⟨_, hk, t136 (ctab_ok ctab_nil) rfl⟩
theorem c122 : COk cfg 122 tzC := by
  refine cok_pure pf122 fun vs h K ht => ?_
  obtain ⟨rfl, hk⟩ := ht
  exact ⟨_, hk, t122 (ctab_ok (ctab_cons c136 ctab_nil)) ⟨rfl, rfl⟩⟩
def zc (k : Nat) : List AV := List.replicate k (AV.int .u8 0)
def dg36 : List UInt8 := [48, 49, 50, 51, 52, 53, 54, 55, 56, 57, 97, 98, 99, 100, 101, 102, 103, 104, 105, 106, 107, 108, 109, 110, 111, 112, 113, 114, 115, 116, 117, 118, 119, 120, 121, 122]
theorem dg36_at {n : Nat} (h : n < 16) : List.getD dg36 n 0 = hexC n := by
  have : ∀ n, n < 16 → List.getD dg36 n 0 = hexC n := by decide
  exact this n h
theorem zc_set {k : Nat} {acc : List UInt8} {c : UInt8} : splice (zc (k + 1) ++ bc acc) (0 + k * 1) [AV.int .u8 ((UInt8.toNat c : Nat) : Int)] = zc k ++ bc (c :: acc) := by
  have e : zc (k + 1) ++ bc acc = zc k ++ AV.int .u8 0 :: bc acc := by
    unfold zc
    rw [List.replicate_succ', List.append_assoc]; rfl
  rw [e, splice_at (by simp [zc])]
  rfl
theorem tab98 : TabOk cfg (ctab [(121, powC), (122, tzC)]) := ctab_ok (ctab_cons c121 (ctab_cons c122 ctab_nil))
theorem loop98 : ∀ (m n : Nat) (acc : List UInt8), n < m → n ≤ lim → acc.length + (hexT n).length ≤ 65 →
    ToEnd cfg 98 (bodyOf Tryd.f98) (RetIs Tryd.prog Tryd.f98 (.tup [.sl 1 [] none, .str (hexT n ++ acc)])) [.code [0, 0, 1, 1, 1, 0, 1, 0, 1, 1, 1, 1, 1], .block 0, .code [1, 1, 1, 1, 0, 1, 0, 1, 1, 1, 1, 1], .code [1, 1, 1, 1, 1, 1]] .normal
      [(0, true, .sl 0 [] none), (1, true, .int .u64 n), (3, true, .bool false), (4, true, .bool false), (10, true, .sl 1 [] (some 0)), (11, true, .str []), (12, true, .ptr 1 0), (13, true, .int .i64 ((65 - acc.length : Nat) : Int)), (14, true, .int .u64 4), (15, true, .int .u64 16), (16, true, .int .u64 15)] [.grow 0 1 5, .mem 153 (zc (65 - acc.length) ++ bc acc)] := by
  intro m
  induction m with
  | zero => intro n acc hm; omega
  | succ m ih =>
    intro n acc hm hn hl
    have hn' : n ≤ 10000000 := hn
    have hT := hexT_eq (n := n) (by omega)
    have hne : 0 < (hexT n).length := List.length_pos_iff.2 (hexT_ne n)
    obtain ⟨k, hk⟩ : ∃ k, 65 - acc.length = k + 1 := ⟨64 - acc.length, by omega⟩
    rw [hk]
    have w1 : IntKind.wrap .i64 (((k + 1 : Nat) : Int) - 1) = (k : Int) := by rw [wrap_in (by omega) (by omega)]; omega
    have len1 : (zc (k + 1) ++ bc acc).length = 65 := by rw [List.length_append, bc_len]; simp [zc]; omega
    have h65 : (inR (k : Int) 65 && true) = true := by rw [inR_nat (by omega)]; rfl
    have hb : Nat.ble (0 + Int.toNat (k : Int) * 1 + 1) (zc (k + 1) ++ bc acc).length = true := Nat.ble_eq_true_of_le (by rw [len1]; simp; omega)
    refine t98b tab98 ?_
    rw [w1]
    refine ifP_intro (fun a => ?_) fun a => ?_
    · have ha : ¬ n < 16 := by simp only [ge_iff_le, decide_eq_true_eq] at a; omega
      rw [if_neg ha] at hT
      have e1 : bits .and .u64 (n : Int) 15 = ((n % 16 : Nat) : Int) := by
        have := u64_and_nat n 15 (by omega) (by omega)
        have e : (n &&& 15) = n % 16 := Nat.and_two_pow_sub_one_eq_mod n 4
        rw [e] at this
        exact this
      have e2 : Int.fdiv (n : Int) 16 = ((n / 16 : Nat) : Int) := by rw [Int.fdiv_eq_ediv_of_nonneg _ (by omega)]; rfl
      rw [e1, e2]
      refine gAnd_intro (inR_nat (by omega)) (gAnd_intro h65 (gAnd_intro hb ?_))
      have e3 : List.getD dg36 (Int.toNat ((n % 16 : Nat) : Int)) 0 = hexC (n % 16) := by rw [Int.toNat_natCast]; exact dg36_at (Nat.mod_lt _ (by omega))
      have e3' : List.getD [48, 49, 50, 51, 52, 53, 54, 55, 56, 57, 97, 98, 99, 100, 101, 102, 103, 104, 105, 106, 107, 108, 109, 110, 111, 112, 113, 114, 115, 116, 117, 118, 119, 120, 121, 122] (Int.toNat ((n % 16 : Nat) : Int)) 0 = hexC (n % 16) := e3
      rw [e3', Int.toNat_natCast, zc_set]
      have := ih (n / 16) (hexC (n % 16) :: acc) (by omega) (by unfold lim; omega) (by rw [hT] at hl; simp at hl ⊢; omega)
      have ek : 65 - (hexC (n % 16) :: acc).length = k := by simp; omega
      rw [ek] at this
      rw [hT]
      simpa using this
    · have ha : n < 16 := by simp only [ge_iff_le, decide_eq_false_iff_not] at a; omega
      rw [if_pos ha] at hT
      have e3 : List.getD dg36 (Int.toNat (n : Int)) 0 = hexC n := by rw [Int.toNat_natCast]; exact dg36_at ha
      have e3' : List.getD [48, 49, 50, 51, 52, 53, 54, 55, 56, 57, 97, 98, 99, 100, 101, 102, 103, 104, 105, 106, 107, 108, 109, 110, 111, 112, 113, 114, 115, 116, 117, 118, 119, 120, 121, 122] (Int.toNat (n : Int)) 0 = hexC n := e3
      refine gAnd_intro (inR_nat (by omega)) (gAnd_intro h65 (gAnd_intro hb ?_))
      rw [e3', Int.toNat_natCast, zc_set]
      have len2 : (zc k ++ bc (hexC n :: acc)).length = 65 := by rw [List.length_append, bc_len]; simp [zc]; omega
      have e4 : List.take (65 - k) (List.drop (0 + k * 1) (zc k ++ bc (hexC n :: acc))) = bc (hexC n :: acc) := by
        have : (zc k).length = k := by simp [zc]
        rw [List.drop_append, List.drop_eq_nil_of_le (by omega), List.nil_append, this, show 0 + k * 1 - k = 0 by omega, List.drop_zero, List.take_of_length_le (by rw [bc_len]; simp; omega)]
      refine gAnd_intro ?_ (gAnd_intro ?_ ?_)
      · rw [len2, decide_eq_true (by omega), decide_eq_true (by omega)]; rfl
      · rw [e4]; exact cellsB_bc _
      · rw [e4, cellV_bc, hT]; rfl
theorem c98 : COk cfg 98 fbC := by
  refine cok_pure pf98 fun vs h K ht => ?_
  obtain ⟨n, hn, rfl, hk⟩ := ht
  have hn' : n ≤ 10000000 := hn
  have hl := hexS_len 17 n 8 (by omega) (by omega)
  have := loop98 (n + 1) n [] (Nat.lt_succ_self _) hn (by unfold hexT; simp; omega)
  rw [List.append_nil] at this
  exact ⟨_, hk, t98a tab98 ⟨rfl, rfl, this⟩⟩
theorem c73 : COk cfg 73 hexPC := by
  refine cok_pure pf73 fun vs h K ht => ?_
  obtain ⟨n, hn, rfl, hk⟩ := ht
  have hn' : n ≤ 10000000 := hn
  refine ⟨_, hk, t73 (ctab_ok (ctab_cons c98 ctab_nil)) ⟨n, hn', ?_, rfl⟩⟩
  rw [wrapU (by omega) (by omega), decide_eq_false (by omega)]
theorem c50 : COk cfg 50 hexPC := by
  refine cok_pure pf50 fun vs h K ht => ?_
  obtain ⟨n, hn, rfl, hk⟩ := ht
  exact ⟨_, hk, t50 (ctab_ok (ctab_cons c73 ctab_nil)) ⟨n, hn, rfl, rfl⟩⟩
end Go.Proofs.YtnncfdlpogjlkaaDoor
end

section
namespace Go.Proofs.YtnncfdlpogjlkaaDoor
open Go.Ai Go
set_option maxRecDepth 100000
set_option linter.unusedVariables false
theorem t28a {v : AV} {s : List UInt8} {l : List (List AV)} {sz : Nat} (hT : TabOk cfg (ctab [(50, hexPC), (39, writeA), (41, strA)])) (H :
    ToEnd cfg 28 (bodyOf Tryd.f28) (RetIs Tryd.prog Tryd.f28 v) [Fm.code [0, 1, 0, 1, 1], Fm.block 0, Fm.code [1, 1, 1]] XT.normal [(0, true, AV.str s), (5, true, AV.sl 1 [] (some 0)), (11, true, AV.sl sz l none), (12, true, AV.int IntKind.i64 (↑(List.length l) : Int)), (13, true, AV.int IntKind.i64 0)] [Blk.grow 0 1 3]) :
    ToEnd cfg 28 (bodyOf Tryd.f28) (RetIs Tryd.prog Tryd.f28 v) ([.code []]) .normal ([(0, true, .str s), (1, true, .sl sz l none)]) ([]) := by
  have e : unr cfg 28 (bodyOf Tryd.f28) (ctab [(50, hexPC), (39, writeA), (41, strA)]) ⟨[[0, 1, 0, 1, 1], [0, 1, 0, 1, 1, 1, 1, 1]], [([0, 0, 0, 1, 1, 0, 0, 1, 0, 1, 1], 0, [.int .i64]), ([0, 1, 1, 0, 0, 1, 1, 0, 0, 1, 0, 1, 1, 1, 1, 1], 5, [.int .i64])]⟩ (RetIs Tryd.prog Tryd.f28 v) 100000 ([.code []]) .normal ([(0, true, .str s), (1, true, .sl sz l none)]) ([]) =
    (ToEnd cfg 28 (bodyOf Tryd.f28) (RetIs Tryd.prog Tryd.f28 v) [Fm.code [0, 1, 0, 1, 1], Fm.block 0, Fm.code [1, 1, 1]] XT.normal [(0, true, AV.str s), (5, true, AV.sl 1 [] (some 0)), (11, true, AV.sl sz l none), (12, true, AV.int IntKind.i64 (↑(List.length l) : Int)), (13, true, AV.int IntKind.i64 0)] [Blk.grow 0 1 3]) := by kernel_rfl
  exact unr_ok hT 100000 _ _ _ _ (e.mpr H)

theorem t28b {v : AV}  {l : List (List AV)} {sz : Nat} {s0 : List UInt8} {e5 : List (List AV)} {i12 : Int} {i13 : Int} {g0 : Nat} (hT : TabOk cfg (ctab [(50, hexPC), (39, writeA), (41, strA)])) (H :
    ifP (decide (i13 < i12)) (gAnd (inR i13 (List.length l) && Nat.beq sz 1 && Nat.ble 1 sz) (∃ (z1 : Int), getE l i13 = [AV.int IntKind.i64 z1] ∧ ifP (decide (z1 > 0)) (gAnd (tagOk [Blk.grow g0 1 3, Blk.grow 1 1 3] (List.length e5) 1 3 (some 0) && true && true && true && decide ((List.length e5 + 1) * 8 ≤ 140737488355328) && true && true) (gAnd (lowVss 1 (e5 ++ [[AV.int IntKind.i64 z1]]) && true && (lowVss 1 l && true && true) && true) (ToEnd cfg 28 (bodyOf Tryd.f28) (RetIs Tryd.prog Tryd.f28 v) [Fm.code [0, 1, 0, 1, 1], Fm.block 0, Fm.code [1, 1, 1]] XT.normal [(0, true, AV.str s0), (5, true, AV.sl 1 (e5 ++ [[AV.int IntKind.i64 z1]]) (some 0)), (11, true, AV.sl sz l none), (12, true, AV.int IntKind.i64 i12), (13, true, AV.int IntKind.i64 (IntKind.wrap IntKind.i64 (i13 + 1)))] [Blk.grow (List.length e5 + 1) 1 3]))) (gAnd (lowVss 1 e5 && true && (lowVss 1 l && true && true) && true) (ToEnd cfg 28 (bodyOf Tryd.f28) (RetIs Tryd.prog Tryd.f28 v) [Fm.code [0, 1, 0, 1, 1], Fm.block 0, Fm.code [1, 1, 1]] XT.normal [(0, true, AV.str s0), (5, true, AV.sl 1 e5 (some 0)), (11, true, AV.sl sz l none), (12, true, AV.int IntKind.i64 i12), (13, true, AV.int IntKind.i64 (IntKind.wrap IntKind.i64 (i13 + 1)))] [Blk.grow g0 1 3])))) (ifP ((↑(List.length e5) : Int) == 0) (ToEnd cfg 28 (bodyOf Tryd.f28) (RetIs Tryd.prog Tryd.f28 v) [Fm.code [0, 1, 0, 1, 1, 1, 1, 1], Fm.block 2, Fm.code [1, 1, 1, 1, 1, 1]] XT.normal [(0, true, AV.str s0), (5, true, AV.sl 1 [[AV.int IntKind.i64 (max 1 (↑(List.length s0) : Int))]] (some 1)), (8, true, AV.ptr 3 0), (32, true, AV.int IntKind.i64 (↑(List.length s0) : Int)), (33, true, AV.int IntKind.i64 0)] [Blk.grow g0 1 3, Blk.grow 1 1 3, Blk.grow 0 1 5, Blk.mem 71 [AV.nilp, AV.sl 1 [] (some 2)]]) (ToEnd cfg 28 (bodyOf Tryd.f28) (RetIs Tryd.prog Tryd.f28 v) [Fm.code [0, 1, 0, 1, 1, 1, 1, 1], Fm.block 2, Fm.code [1, 1, 1, 1, 1, 1]] XT.normal [(0, true, AV.str s0), (5, true, AV.sl 1 e5 (some 0)), (8, true, AV.ptr 2 0), (32, true, AV.int IntKind.i64 (↑(List.length s0) : Int)), (33, true, AV.int IntKind.i64 0)] [Blk.grow g0 1 3, Blk.grow 0 1 5, Blk.mem 71 [AV.nilp, AV.sl 1 [] (some 1)]]))) :
    ToEnd cfg 28 (bodyOf Tryd.f28) (RetIs Tryd.prog Tryd.f28 v) ([.code [0, 1, 0, 1, 1], Fm.block 0, Fm.code [1, 1, 1]]) .normal ([(0, true, AV.str s0), (5, true, AV.sl 1 e5 (some 0)), (11, true, AV.sl sz l none), (12, true, AV.int IntKind.i64 i12), (13, true, AV.int IntKind.i64 i13)]) ([Blk.grow g0 1 3]) := by
  have e : unr cfg 28 (bodyOf Tryd.f28) (ctab [(50, hexPC), (39, writeA), (41, strA)]) ⟨[[0, 1, 0, 1, 1], [0, 1, 0, 1, 1, 1, 1, 1]], [([0, 0, 0, 1, 1, 0, 0, 1, 0, 1, 1], 0, [.int .i64]), ([0, 1, 1, 0, 0, 1, 1, 0, 0, 1, 0, 1, 1, 1, 1, 1], 5, [.int .i64])]⟩ (RetIs Tryd.prog Tryd.f28 v) 100000 ([.code [0, 0, 1, 0, 1, 1], .loop [0, 1, 0, 1, 1] 1, Fm.block 0, Fm.code [1, 1, 1]]) .normal ([(0, true, AV.str s0), (5, true, AV.sl 1 e5 (some 0)), (11, true, AV.sl sz l none), (12, true, AV.int IntKind.i64 i12), (13, true, AV.int IntKind.i64 i13)]) ([Blk.grow g0 1 3]) =
    (ifP (decide (i13 < i12)) (gAnd (inR i13 (List.length l) && Nat.beq sz 1 && Nat.ble 1 sz) (∃ (z1 : Int), getE l i13 = [AV.int IntKind.i64 z1] ∧ ifP (decide (z1 > 0)) (gAnd (tagOk [Blk.grow g0 1 3, Blk.grow 1 1 3] (List.length e5) 1 3 (some 0) && true && true && true && decide ((List.length e5 + 1) * 8 ≤ 140737488355328) && true && true) (gAnd (lowVss 1 (e5 ++ [[AV.int IntKind.i64 z1]]) && true && (lowVss 1 l && true && true) && true) (ToEnd cfg 28 (bodyOf Tryd.f28) (RetIs Tryd.prog Tryd.f28 v) [Fm.code [0, 1, 0, 1, 1], Fm.block 0, Fm.code [1, 1, 1]] XT.normal [(0, true, AV.str s0), (5, true, AV.sl 1 (e5 ++ [[AV.int IntKind.i64 z1]]) (some 0)), (11, true, AV.sl sz l none), (12, true, AV.int IntKind.i64 i12), (13, true, AV.int IntKind.i64 (IntKind.wrap IntKind.i64 (i13 + 1)))] [Blk.grow (List.length e5 + 1) 1 3]))) (gAnd (lowVss 1 e5 && true && (lowVss 1 l && true && true) && true) (ToEnd cfg 28 (bodyOf Tryd.f28) (RetIs Tryd.prog Tryd.f28 v) [Fm.code [0, 1, 0, 1, 1], Fm.block 0, Fm.code [1, 1, 1]] XT.normal [(0, true, AV.str s0), (5, true, AV.sl 1 e5 (some 0)), (11, true, AV.sl sz l none), (12, true, AV.int IntKind.i64 i12), (13, true, AV.int IntKind.i64 (IntKind.wrap IntKind.i64 (i13 + 1)))] [Blk.grow g0 1 3])))) (ifP ((↑(List.length e5) : Int) == 0) (ToEnd cfg 28 (bodyOf Tryd.f28) (RetIs Tryd.prog Tryd.f28 v) [Fm.code [0, 1, 0, 1, 1, 1, 1, 1], Fm.block 2, Fm.code [1, 1, 1, 1, 1, 1]] XT.normal [(0, true, AV.str s0), (5, true, AV.sl 1 [[AV.int IntKind.i64 (max 1 (↑(List.length s0) : Int))]] (some 1)), (8, true, AV.ptr 3 0), (32, true, AV.int IntKind.i64 (↑(List.length s0) : Int)), (33, true, AV.int IntKind.i64 0)] [Blk.grow g0 1 3, Blk.grow 1 1 3, Blk.grow 0 1 5, Blk.mem 71 [AV.nilp, AV.sl 1 [] (some 2)]]) (ToEnd cfg 28 (bodyOf Tryd.f28) (RetIs Tryd.prog Tryd.f28 v) [Fm.code [0, 1, 0, 1, 1, 1, 1, 1], Fm.block 2, Fm.code [1, 1, 1, 1, 1, 1]] XT.normal [(0, true, AV.str s0), (5, true, AV.sl 1 e5 (some 0)), (8, true, AV.ptr 2 0), (32, true, AV.int IntKind.i64 (↑(List.length s0) : Int)), (33, true, AV.int IntKind.i64 0)] [Blk.grow g0 1 3, Blk.grow 0 1 5, Blk.mem 71 [AV.nilp, AV.sl 1 [] (some 1)]]))) := by kernel_rfl
  exact ends_round hT 100000 (by kernel_rfl) (e.mpr H)

theorem t29a {v : AV} {s : List UInt8} {l : List (List AV)} {sz : Nat} (hT : TabOk cfg (ctab [(51, hexTC)])) (H :
    ToEnd cfg 29 (bodyOf Tryd.f29) (RetIs Tryd.prog Tryd.f29 v) [Fm.code [0, 1, 0, 1, 1], Fm.block 0, Fm.code [1, 1, 1]] XT.normal [(0, true, AV.str s), (1, true, AV.sl sz l none), (5, true, AV.sl 1 [] (some 0)), (6, true, AV.int IntKind.i64 0)] [Blk.grow 0 1 3]) :
    ToEnd cfg 29 (bodyOf Tryd.f29) (RetIs Tryd.prog Tryd.f29 v) ([.code []]) .normal ([(0, true, .str s), (1, true, .sl sz l none)]) ([]) := by
  have e : unr cfg 29 (bodyOf Tryd.f29) (ctab [(51, hexTC)]) ⟨[[0, 1, 0, 1, 1], [0, 0, 1, 1, 1, 1, 1]], [([0, 0, 0, 1, 0, 0, 1, 0, 1, 1], 2, [.int .i64]), ([0, 1, 0, 0, 1, 0, 0, 1, 0, 1, 1], 3, [.int .i64]), ([0, 0, 1, 0, 1, 0, 0, 0, 1, 1, 1, 1, 1], 9, [.int .i64]), ([0, 1, 0, 1, 0, 1, 0, 0, 0, 1, 1, 1, 1, 1], 5, [.int .i64])]⟩ (RetIs Tryd.prog Tryd.f29 v) 100000 ([.code []]) .normal ([(0, true, .str s), (1, true, .sl sz l none)]) ([]) =
    (ToEnd cfg 29 (bodyOf Tryd.f29) (RetIs Tryd.prog Tryd.f29 v) [Fm.code [0, 1, 0, 1, 1], Fm.block 0, Fm.code [1, 1, 1]] XT.normal [(0, true, AV.str s), (1, true, AV.sl sz l none), (5, true, AV.sl 1 [] (some 0)), (6, true, AV.int IntKind.i64 0)] [Blk.grow 0 1 3]) := by kernel_rfl
  exact unr_ok hT 100000 _ _ _ _ (e.mpr H)

theorem t29b {v : AV}  {l : List (List AV)} {sz : Nat} {s0 : List UInt8} {e5 : List (List AV)} {i6 : Int} {g0 : Nat} (hT : TabOk cfg (ctab [(51, hexTC)])) (H :
    ifP (decide (i6 < (↑(List.length l) : Int))) (gAnd (inR i6 (List.length l) && Nat.beq sz 1 && Nat.ble 1 sz) (∃ (z1 : Int), getE l i6 = [AV.int IntKind.i64 z1] ∧ ifP (decide (z1 > 0)) (gAnd (inR i6 (List.length l) && Nat.beq sz 1 && Nat.ble 1 sz) (∃ (z2 : Int), getE l i6 = [AV.int IntKind.i64 z2] ∧ gAnd (tagOk [Blk.grow g0 1 3, Blk.grow 1 1 3] (List.length e5) 1 3 (some 0) && true && true && true && decide ((List.length e5 + 1) * 8 ≤ 140737488355328) && true && true) (gAnd (lowVss 1 l && true && (lowVss 1 (e5 ++ [[AV.int IntKind.i64 z2]]) && true && true) && true) (ToEnd cfg 29 (bodyOf Tryd.f29) (RetIs Tryd.prog Tryd.f29 v) [Fm.code [0, 1, 0, 1, 1], Fm.block 0, Fm.code [1, 1, 1]] XT.normal [(0, true, AV.str s0), (1, true, AV.sl sz l none), (5, true, AV.sl 1 (e5 ++ [[AV.int IntKind.i64 z2]]) (some 0)), (6, true, AV.int IntKind.i64 (IntKind.wrap IntKind.i64 (i6 + 1)))] [Blk.grow (List.length e5 + 1) 1 3])))) (gAnd (lowVss 1 l && true && (lowVss 1 e5 && true && true) && true) (ToEnd cfg 29 (bodyOf Tryd.f29) (RetIs Tryd.prog Tryd.f29 v) [Fm.code [0, 1, 0, 1, 1], Fm.block 0, Fm.code [1, 1, 1]] XT.normal [(0, true, AV.str s0), (1, true, AV.sl sz l none), (5, true, AV.sl 1 e5 (some 0)), (6, true, AV.int IntKind.i64 (IntKind.wrap IntKind.i64 (i6 + 1)))] [Blk.grow g0 1 3])))) (ToEnd cfg 29 (bodyOf Tryd.f29) (RetIs Tryd.prog Tryd.f29 v) [Fm.code [0, 0, 1, 1, 1, 1, 1], Fm.block 2, Fm.code [1, 1, 1, 1, 1, 1]] XT.normal [(0, true, AV.str s0), (5, true, AV.sl 1 e5 (some 0)), (7, true, AV.sl 1 [] (some 1)), (8, true, AV.int IntKind.i64 0)] [Blk.grow g0 1 3, Blk.grow 0 1 5])) :
    ToEnd cfg 29 (bodyOf Tryd.f29) (RetIs Tryd.prog Tryd.f29 v) ([.code [0, 1, 0, 1, 1], Fm.block 0, Fm.code [1, 1, 1]]) .normal ([(0, true, AV.str s0), (1, true, AV.sl sz l none), (5, true, AV.sl 1 e5 (some 0)), (6, true, AV.int IntKind.i64 i6)]) ([Blk.grow g0 1 3]) := by
  have e : unr cfg 29 (bodyOf Tryd.f29) (ctab [(51, hexTC)]) ⟨[[0, 1, 0, 1, 1], [0, 0, 1, 1, 1, 1, 1]], [([0, 0, 0, 1, 0, 0, 1, 0, 1, 1], 2, [.int .i64]), ([0, 1, 0, 0, 1, 0, 0, 1, 0, 1, 1], 3, [.int .i64]), ([0, 0, 1, 0, 1, 0, 0, 0, 1, 1, 1, 1, 1], 9, [.int .i64]), ([0, 1, 0, 1, 0, 1, 0, 0, 0, 1, 1, 1, 1, 1], 5, [.int .i64])]⟩ (RetIs Tryd.prog Tryd.f29 v) 100000 ([.code [0, 0, 1, 0, 1, 1], .loop [0, 1, 0, 1, 1] 1, Fm.block 0, Fm.code [1, 1, 1]]) .normal ([(0, true, AV.str s0), (1, true, AV.sl sz l none), (5, true, AV.sl 1 e5 (some 0)), (6, true, AV.int IntKind.i64 i6)]) ([Blk.grow g0 1 3]) =
    (ifP (decide (i6 < (↑(List.length l) : Int))) (gAnd (inR i6 (List.length l) && Nat.beq sz 1 && Nat.ble 1 sz) (∃ (z1 : Int), getE l i6 = [AV.int IntKind.i64 z1] ∧ ifP (decide (z1 > 0)) (gAnd (inR i6 (List.length l) && Nat.beq sz 1 && Nat.ble 1 sz) (∃ (z2 : Int), getE l i6 = [AV.int IntKind.i64 z2] ∧ gAnd (tagOk [Blk.grow g0 1 3, Blk.grow 1 1 3] (List.length e5) 1 3 (some 0) && true && true && true && decide ((List.length e5 + 1) * 8 ≤ 140737488355328) && true && true) (gAnd (lowVss 1 l && true && (lowVss 1 (e5 ++ [[AV.int IntKind.i64 z2]]) && true && true) && true) (ToEnd cfg 29 (bodyOf Tryd.f29) (RetIs Tryd.prog Tryd.f29 v) [Fm.code [0, 1, 0, 1, 1], Fm.block 0, Fm.code [1, 1, 1]] XT.normal [(0, true, AV.str s0), (1, true, AV.sl sz l none), (5, true, AV.sl 1 (e5 ++ [[AV.int IntKind.i64 z2]]) (some 0)), (6, true, AV.int IntKind.i64 (IntKind.wrap IntKind.i64 (i6 + 1)))] [Blk.grow (List.length e5 + 1) 1 3])))) (gAnd (lowVss 1 l && true && (lowVss 1 e5 && true && true) && true) (ToEnd cfg 29 (bodyOf Tryd.f29) (RetIs Tryd.prog Tryd.f29 v) [Fm.code [0, 1, 0, 1, 1], Fm.block 0, Fm.code [1, 1, 1]] XT.normal [(0, true, AV.str s0), (1, true, AV.sl sz l none), (5, true, AV.sl 1 e5 (some 0)), (6, true, AV.int IntKind.i64 (IntKind.wrap IntKind.i64 (i6 + 1)))] [Blk.grow g0 1 3])))) (ToEnd cfg 29 (bodyOf Tryd.f29) (RetIs Tryd.prog Tryd.f29 v) [Fm.code [0, 0, 1, 1, 1, 1, 1], Fm.block 2, Fm.code [1, 1, 1, 1, 1, 1]] XT.normal [(0, true, AV.str s0), (5, true, AV.sl 1 e5 (some 0)), (7, true, AV.sl 1 [] (some 1)), (8, true, AV.int IntKind.i64 0)] [Blk.grow g0 1 3, Blk.grow 0 1 5])) := by kernel_rfl
  exact ends_round hT 100000 (by kernel_rfl) (e.mpr H)

theorem t28c {v : AV} {s : List UInt8} {l e : List (List AV)} {p : AV} {N i : Int} {g n : Nat} (hT : TabOk cfg (ctab [(50, hexPC), (39, writeA), (41, strA)])) (H :
    ifP (decide (i < N)) (ifP (s == []) (∃ (acc1 : List UInt8), (1 = 1 ∧ 5 = 5 ∧ 71 = 71 ∧ 1 = 1 ∧ 1 = 1) ∧ e = rb acc1 ∧ n = List.length acc1 ∧ [AV.ptr 2 0] = [AV.ptr 2 0] ∧ gAnd (decide (List.length acc1 + 1 ≤ 9223372036854775807)) (gAnd (decide (List.length (acc1 ++ [48]) + 2 ≤ 9223372036854775807)) (gAnd (decide (List.length (acc1 ++ [48] ++ [13, 10]) + 2 ≤ 9223372036854775807)) (AV.str (acc1 ++ [48] ++ [13, 10] ++ [13, 10]) = v)))) (gAnd (!decide ((↑(List.length l) : Int) = 0)) (gAnd (inR (Int.tmod i (↑(List.length l) : Int)) (List.length l) && true && true) (∃ (z2 : Int), getE l (Int.tmod i (↑(List.length l) : Int)) = [AV.int IntKind.i64 z2] ∧ ∃ (n3 : Nat), n3 ≤ 10000000 ∧ [AV.int IntKind.i64 (min z2 (↑(List.length s) : Int)), AV.int IntKind.i64 16] = [AV.int IntKind.i64 (↑n3 : Int), AV.int IntKind.i64 16] ∧ gAnd (decide (List.length (hexT n3) + 2 ≤ 9223372036854775807)) (gAnd (cutOb (List.length s) none (some (min z2 (↑(List.length s) : Int)))) (gAnd (decide (List.length (hexT n3 ++ [13, 10]) + List.length (cutL s none (some (min z2 (↑(List.length s) : Int)))) ≤ 9223372036854775807)) (gAnd (decide (List.length (hexT n3 ++ [13, 10] ++ cutL s none (some (min z2 (↑(List.length s) : Int)))) + 2 ≤ 9223372036854775807)) (∃ (acc4 : List UInt8), ∃ (x5 : List UInt8), (1 = 1 ∧ 5 = 5 ∧ 71 = 71 ∧ 1 = 1 ∧ 1 = 1) ∧ (p = AV.nilp ∨ p = AV.ptr 2 0) ∧ e = rb acc4 ∧ n = List.length acc4 ∧ List.length acc4 + List.length x5 ≤ 1000000000 ∧ [AV.ptr 2 0, AV.str (hexT n3 ++ [13, 10] ++ cutL s none (some (min z2 (↑(List.length s) : Int))) ++ [13, 10])] = [AV.ptr 2 0, AV.str x5] ∧ gAnd (cutOb (List.length s) (some (min z2 (↑(List.length s) : Int))) none) (gAnd (lowVss 3 l && true && true && (lowVss 3 (rb (acc4 ++ x5)) && true && true && true)) (ToEnd cfg 28 (bodyOf Tryd.f28) (RetIs Tryd.prog Tryd.f28 v) [Fm.code [0, 1, 0, 1, 1, 1, 1, 1], Fm.block 2, Fm.code [1, 1, 1, 1, 1, 1]] XT.normal [(0, true, AV.str (cutL s (some (min z2 (↑(List.length s) : Int))) none)), (5, true, AV.sl 1 l (some 0)), (8, true, AV.ptr 2 0), (32, true, AV.int IntKind.i64 N), (33, true, AV.int IntKind.i64 (IntKind.wrap IntKind.i64 (i + 1)))] [Blk.grow g 1 3, Blk.grow (List.length (acc4 ++ x5)) 1 5, Blk.mem 71 [AV.ptr 2 0, AV.sl 1 (rb (acc4 ++ x5)) (some 1)]])))))))))) (∃ (acc6 : List UInt8), (1 = 1 ∧ 5 = 5 ∧ 71 = 71 ∧ 1 = 1 ∧ 1 = 1) ∧ e = rb acc6 ∧ n = List.length acc6 ∧ [AV.ptr 2 0] = [AV.ptr 2 0] ∧ gAnd (decide (List.length acc6 + 1 ≤ 9223372036854775807)) (gAnd (decide (List.length (acc6 ++ [48]) + 2 ≤ 9223372036854775807)) (gAnd (decide (List.length (acc6 ++ [48] ++ [13, 10]) + 2 ≤ 9223372036854775807)) (AV.str (acc6 ++ [48] ++ [13, 10] ++ [13, 10]) = v))))) :
    ToEnd cfg 28 (bodyOf Tryd.f28) (RetIs Tryd.prog Tryd.f28 v) ([.code [0, 1, 0, 1, 1, 1, 1, 1], .block 2, .code [1, 1, 1, 1, 1, 1]]) .normal ([(0, true, .str s), (5, true, .sl 1 l (some 0)), (8, true, .ptr 2 0), (32, true, .int .i64 N), (33, true, .int .i64 i)]) ([.grow g 1 3, .grow n 1 5, .mem 71 [p, .sl 1 e (some 1)]]) := by
  have e : unr cfg 28 (bodyOf Tryd.f28) (ctab [(50, hexPC), (39, writeA), (41, strA)]) ⟨[[0, 1, 0, 1, 1, 1, 1, 1]], [([0, 0, 0, 1, 1, 0, 0, 1, 0, 1, 1], 0, [.int .i64]), ([0, 1, 1, 0, 0, 1, 1, 0, 0, 1, 0, 1, 1, 1, 1, 1], 5, [.int .i64])]⟩ (RetIs Tryd.prog Tryd.f28 v) 100000 ([.code [0, 0, 1, 0, 1, 1, 1, 1, 1], .loop [0, 1, 0, 1, 1, 1, 1, 1] 3, .block 2, .code [1, 1, 1, 1, 1, 1]]) .normal ([(0, true, .str s), (5, true, .sl 1 l (some 0)), (8, true, .ptr 2 0), (32, true, .int .i64 N), (33, true, .int .i64 i)]) ([.grow g 1 3, .grow n 1 5, .mem 71 [p, .sl 1 e (some 1)]]) =
    (ifP (decide (i < N)) (ifP (s == []) (∃ (acc1 : List UInt8), (1 = 1 ∧ 5 = 5 ∧ 71 = 71 ∧ 1 = 1 ∧ 1 = 1) ∧ e = rb acc1 ∧ n = List.length acc1 ∧ [AV.ptr 2 0] = [AV.ptr 2 0] ∧ gAnd (decide (List.length acc1 + 1 ≤ 9223372036854775807)) (gAnd (decide (List.length (acc1 ++ [48]) + 2 ≤ 9223372036854775807)) (gAnd (decide (List.length (acc1 ++ [48] ++ [13, 10]) + 2 ≤ 9223372036854775807)) (AV.str (acc1 ++ [48] ++ [13, 10] ++ [13, 10]) = v)))) (gAnd (!decide ((↑(List.length l) : Int) = 0)) (gAnd (inR (Int.tmod i (↑(List.length l) : Int)) (List.length l) && true && true) (∃ (z2 : Int), getE l (Int.tmod i (↑(List.length l) : Int)) = [AV.int IntKind.i64 z2] ∧ ∃ (n3 : Nat), n3 ≤ 10000000 ∧ [AV.int IntKind.i64 (min z2 (↑(List.length s) : Int)), AV.int IntKind.i64 16] = [AV.int IntKind.i64 (↑n3 : Int), AV.int IntKind.i64 16] ∧ gAnd (decide (List.length (hexT n3) + 2 ≤ 9223372036854775807)) (gAnd (cutOb (List.length s) none (some (min z2 (↑(List.length s) : Int)))) (gAnd (decide (List.length (hexT n3 ++ [13, 10]) + List.length (cutL s none (some (min z2 (↑(List.length s) : Int)))) ≤ 9223372036854775807)) (gAnd (decide (List.length (hexT n3 ++ [13, 10] ++ cutL s none (some (min z2 (↑(List.length s) : Int)))) + 2 ≤ 9223372036854775807)) (∃ (acc4 : List UInt8), ∃ (x5 : List UInt8), (1 = 1 ∧ 5 = 5 ∧ 71 = 71 ∧ 1 = 1 ∧ 1 = 1) ∧ (p = AV.nilp ∨ p = AV.ptr 2 0) ∧ e = rb acc4 ∧ n = List.length acc4 ∧ List.length acc4 + List.length x5 ≤ 1000000000 ∧ [AV.ptr 2 0, AV.str (hexT n3 ++ [13, 10] ++ cutL s none (some (min z2 (↑(List.length s) : Int))) ++ [13, 10])] = [AV.ptr 2 0, AV.str x5] ∧ gAnd (cutOb (List.length s) (some (min z2 (↑(List.length s) : Int))) none) (gAnd (lowVss 3 l && true && true && (lowVss 3 (rb (acc4 ++ x5)) && true && true && true)) (ToEnd cfg 28 (bodyOf Tryd.f28) (RetIs Tryd.prog Tryd.f28 v) [Fm.code [0, 1, 0, 1, 1, 1, 1, 1], Fm.block 2, Fm.code [1, 1, 1, 1, 1, 1]] XT.normal [(0, true, AV.str (cutL s (some (min z2 (↑(List.length s) : Int))) none)), (5, true, AV.sl 1 l (some 0)), (8, true, AV.ptr 2 0), (32, true, AV.int IntKind.i64 N), (33, true, AV.int IntKind.i64 (IntKind.wrap IntKind.i64 (i + 1)))] [Blk.grow g 1 3, Blk.grow (List.length (acc4 ++ x5)) 1 5, Blk.mem 71 [AV.ptr 2 0, AV.sl 1 (rb (acc4 ++ x5)) (some 1)]])))))))))) (∃ (acc6 : List UInt8), (1 = 1 ∧ 5 = 5 ∧ 71 = 71 ∧ 1 = 1 ∧ 1 = 1) ∧ e = rb acc6 ∧ n = List.length acc6 ∧ [AV.ptr 2 0] = [AV.ptr 2 0] ∧ gAnd (decide (List.length acc6 + 1 ≤ 9223372036854775807)) (gAnd (decide (List.length (acc6 ++ [48]) + 2 ≤ 9223372036854775807)) (gAnd (decide (List.length (acc6 ++ [48] ++ [13, 10]) + 2 ≤ 9223372036854775807)) (AV.str (acc6 ++ [48] ++ [13, 10] ++ [13, 10]) = v))))) := by kernel_rfl
  exact ends_round hT 100000 (by kernel_rfl) (e.mpr H)

theorem t28d {v : AV} {s : List UInt8} {l e : List (List AV)} {p : AV} {N i : Int} {g m n : Nat} (hT : TabOk cfg (ctab [(50, hexPC), (39, writeA), (41, strA)])) (H :
    ifP (decide (i < N)) (ifP (s == []) (∃ (acc1 : List UInt8), (1 = 1 ∧ 5 = 5 ∧ 71 = 71 ∧ 1 = 1 ∧ 2 = 2) ∧ e = rb acc1 ∧ n = List.length acc1 ∧ [AV.ptr 3 0] = [AV.ptr 3 0] ∧ gAnd (decide (List.length acc1 + 1 ≤ 9223372036854775807)) (gAnd (decide (List.length (acc1 ++ [48]) + 2 ≤ 9223372036854775807)) (gAnd (decide (List.length (acc1 ++ [48] ++ [13, 10]) + 2 ≤ 9223372036854775807)) (AV.str (acc1 ++ [48] ++ [13, 10] ++ [13, 10]) = v)))) (gAnd (!decide ((↑(List.length l) : Int) = 0)) (gAnd (inR (Int.tmod i (↑(List.length l) : Int)) (List.length l) && true && true) (∃ (z2 : Int), getE l (Int.tmod i (↑(List.length l) : Int)) = [AV.int IntKind.i64 z2] ∧ ∃ (n3 : Nat), n3 ≤ 10000000 ∧ [AV.int IntKind.i64 (min z2 (↑(List.length s) : Int)), AV.int IntKind.i64 16] = [AV.int IntKind.i64 (↑n3 : Int), AV.int IntKind.i64 16] ∧ gAnd (decide (List.length (hexT n3) + 2 ≤ 9223372036854775807)) (gAnd (cutOb (List.length s) none (some (min z2 (↑(List.length s) : Int)))) (gAnd (decide (List.length (hexT n3 ++ [13, 10]) + List.length (cutL s none (some (min z2 (↑(List.length s) : Int)))) ≤ 9223372036854775807)) (gAnd (decide (List.length (hexT n3 ++ [13, 10] ++ cutL s none (some (min z2 (↑(List.length s) : Int)))) + 2 ≤ 9223372036854775807)) (∃ (acc4 : List UInt8), ∃ (x5 : List UInt8), (1 = 1 ∧ 5 = 5 ∧ 71 = 71 ∧ 1 = 1 ∧ 2 = 2) ∧ (p = AV.nilp ∨ p = AV.ptr 3 0) ∧ e = rb acc4 ∧ n = List.length acc4 ∧ List.length acc4 + List.length x5 ≤ 1000000000 ∧ [AV.ptr 3 0, AV.str (hexT n3 ++ [13, 10] ++ cutL s none (some (min z2 (↑(List.length s) : Int))) ++ [13, 10])] = [AV.ptr 3 0, AV.str x5] ∧ gAnd (cutOb (List.length s) (some (min z2 (↑(List.length s) : Int))) none) (gAnd (lowVss 4 l && true && true && (lowVss 4 (rb (acc4 ++ x5)) && true && true && true)) (ToEnd cfg 28 (bodyOf Tryd.f28) (RetIs Tryd.prog Tryd.f28 v) [Fm.code [0, 1, 0, 1, 1, 1, 1, 1], Fm.block 2, Fm.code [1, 1, 1, 1, 1, 1]] XT.normal [(0, true, AV.str (cutL s (some (min z2 (↑(List.length s) : Int))) none)), (5, true, AV.sl 1 l (some 1)), (8, true, AV.ptr 3 0), (32, true, AV.int IntKind.i64 N), (33, true, AV.int IntKind.i64 (IntKind.wrap IntKind.i64 (i + 1)))] [Blk.grow g 1 3, Blk.grow m 1 3, Blk.grow (List.length (acc4 ++ x5)) 1 5, Blk.mem 71 [AV.ptr 3 0, AV.sl 1 (rb (acc4 ++ x5)) (some 2)]])))))))))) (∃ (acc6 : List UInt8), (1 = 1 ∧ 5 = 5 ∧ 71 = 71 ∧ 1 = 1 ∧ 2 = 2) ∧ e = rb acc6 ∧ n = List.length acc6 ∧ [AV.ptr 3 0] = [AV.ptr 3 0] ∧ gAnd (decide (List.length acc6 + 1 ≤ 9223372036854775807)) (gAnd (decide (List.length (acc6 ++ [48]) + 2 ≤ 9223372036854775807)) (gAnd (decide (List.length (acc6 ++ [48] ++ [13, 10]) + 2 ≤ 9223372036854775807)) (AV.str (acc6 ++ [48] ++ [13, 10] ++ [13, 10]) = v))))) :
    ToEnd cfg 28 (bodyOf Tryd.f28) (RetIs Tryd.prog Tryd.f28 v) ([.code [0, 1, 0, 1, 1, 1, 1, 1], .block 2, .code [1, 1, 1, 1, 1, 1]]) .normal ([(0, true, .str s), (5, true, .sl 1 l (some 1)), (8, true, .ptr 3 0), (32, true, .int .i64 N), (33, true, .int .i64 i)]) ([.grow g 1 3, .grow m 1 3, .grow n 1 5, .mem 71 [p, .sl 1 e (some 2)]]) := by
  have e : unr cfg 28 (bodyOf Tryd.f28) (ctab [(50, hexPC), (39, writeA), (41, strA)]) ⟨[[0, 1, 0, 1, 1, 1, 1, 1]], [([0, 0, 0, 1, 1, 0, 0, 1, 0, 1, 1], 0, [.int .i64]), ([0, 1, 1, 0, 0, 1, 1, 0, 0, 1, 0, 1, 1, 1, 1, 1], 5, [.int .i64])]⟩ (RetIs Tryd.prog Tryd.f28 v) 100000 ([.code [0, 0, 1, 0, 1, 1, 1, 1, 1], .loop [0, 1, 0, 1, 1, 1, 1, 1] 4, .block 2, .code [1, 1, 1, 1, 1, 1]]) .normal ([(0, true, .str s), (5, true, .sl 1 l (some 1)), (8, true, .ptr 3 0), (32, true, .int .i64 N), (33, true, .int .i64 i)]) ([.grow g 1 3, .grow m 1 3, .grow n 1 5, .mem 71 [p, .sl 1 e (some 2)]]) =
    (ifP (decide (i < N)) (ifP (s == []) (∃ (acc1 : List UInt8), (1 = 1 ∧ 5 = 5 ∧ 71 = 71 ∧ 1 = 1 ∧ 2 = 2) ∧ e = rb acc1 ∧ n = List.length acc1 ∧ [AV.ptr 3 0] = [AV.ptr 3 0] ∧ gAnd (decide (List.length acc1 + 1 ≤ 9223372036854775807)) (gAnd (decide (List.length (acc1 ++ [48]) + 2 ≤ 9223372036854775807)) (gAnd (decide (List.length (acc1 ++ [48] ++ [13, 10]) + 2 ≤ 9223372036854775807)) (AV.str (acc1 ++ [48] ++ [13, 10] ++ [13, 10]) = v)))) (gAnd (!decide ((↑(List.length l) : Int) = 0)) (gAnd (inR (Int.tmod i (↑(List.length l) : Int)) (List.length l) && true && true) (∃ (z2 : Int), getE l (Int.tmod i (↑(List.length l) : Int)) = [AV.int IntKind.i64 z2] ∧ ∃ (n3 : Nat), n3 ≤ 10000000 ∧ [AV.int IntKind.i64 (min z2 (↑(List.length s) : Int)), AV.int IntKind.i64 16] = [AV.int IntKind.i64 (↑n3 : Int), AV.int IntKind.i64 16] ∧ gAnd (decide (List.length (hexT n3) + 2 ≤ 9223372036854775807)) (gAnd (cutOb (List.length s) none (some (min z2 (↑(List.length s) : Int)))) (gAnd (decide (List.length (hexT n3 ++ [13, 10]) + List.length (cutL s none (some (min z2 (↑(List.length s) : Int)))) ≤ 9223372036854775807)) (gAnd (decide (List.length (hexT n3 ++ [13, 10] ++ cutL s none (some (min z2 (↑(List.length s) : Int)))) + 2 ≤ 9223372036854775807)) (∃ (acc4 : List UInt8), ∃ (x5 : List UInt8), (1 = 1 ∧ 5 = 5 ∧ 71 = 71 ∧ 1 = 1 ∧ 2 = 2) ∧ (p = AV.nilp ∨ p = AV.ptr 3 0) ∧ e = rb acc4 ∧ n = List.length acc4 ∧ List.length acc4 + List.length x5 ≤ 1000000000 ∧ [AV.ptr 3 0, AV.str (hexT n3 ++ [13, 10] ++ cutL s none (some (min z2 (↑(List.length s) : Int))) ++ [13, 10])] = [AV.ptr 3 0, AV.str x5] ∧ gAnd (cutOb (List.length s) (some (min z2 (↑(List.length s) : Int))) none) (gAnd (lowVss 4 l && true && true && (lowVss 4 (rb (acc4 ++ x5)) && true && true && true)) (ToEnd cfg 28 (bodyOf Tryd.f28) (RetIs Tryd.prog Tryd.f28 v) [Fm.code [0, 1, 0, 1, 1, 1, 1, 1], Fm.block 2, Fm.code [1, 1, 1, 1, 1, 1]] XT.normal [(0, true, AV.str (cutL s (some (min z2 (↑(List.length s) : Int))) none)), (5, true, AV.sl 1 l (some 1)), (8, true, AV.ptr 3 0), (32, true, AV.int IntKind.i64 N), (33, true, AV.int IntKind.i64 (IntKind.wrap IntKind.i64 (i + 1)))] [Blk.grow g 1 3, Blk.grow m 1 3, Blk.grow (List.length (acc4 ++ x5)) 1 5, Blk.mem 71 [AV.ptr 3 0, AV.sl 1 (rb (acc4 ++ x5)) (some 2)]])))))))))) (∃ (acc6 : List UInt8), (1 = 1 ∧ 5 = 5 ∧ 71 = 71 ∧ 1 = 1 ∧ 2 = 2) ∧ e = rb acc6 ∧ n = List.length acc6 ∧ [AV.ptr 3 0] = [AV.ptr 3 0] ∧ gAnd (decide (List.length acc6 + 1 ≤ 9223372036854775807)) (gAnd (decide (List.length (acc6 ++ [48]) + 2 ≤ 9223372036854775807)) (gAnd (decide (List.length (acc6 ++ [48] ++ [13, 10]) + 2 ≤ 9223372036854775807)) (AV.str (acc6 ++ [48] ++ [13, 10] ++ [13, 10]) = v))))) := by kernel_rfl
  exact ends_round hT 100000 (by kernel_rfl) (e.mpr H)

theorem t29c {v : AV}    {s0 : List UInt8} {e5 : List (List AV)}  {g0 : Nat} {e7 : List (List AV)} {i8 : Int} {g1 : Nat} (hT : TabOk cfg (ctab [(51, hexTC)])) (H :
    ifP (decide ((↑(List.length s0) : Int) > 0))
  (ifP (decide ((↑(List.length e5) : Int) > 0)) (gAnd (!decide ((↑(List.length e5) : Int) = 0)) (gAnd (inR (Int.tmod i8 (↑(List.length e5) : Int)) (List.length e5) && true && true) (∃ (z1 : Int), getE e5 (Int.tmod i8 (↑(List.length e5) : Int)) = [AV.int IntKind.i64 z1] ∧ ifP (decide (z1 < (↑(List.length s0) : Int))) (gAnd (!decide ((↑(List.length e5) : Int) = 0)) (gAnd (inR (Int.tmod i8 (↑(List.length e5) : Int)) (List.length e5) && true && true) (∃ (z2 : Int), getE e5 (Int.tmod i8 (↑(List.length e5) : Int)) = [AV.int IntKind.i64 z2] ∧ ∃ (n3 : Nat), n3 ≤ 10000000 ∧ [AV.int IntKind.i64 z2] = [AV.int IntKind.i64 (↑n3 : Int)] ∧ gAnd (decide (List.length (hexT n3) + 2 ≤ 9223372036854775807)) (gAnd (cutOb (List.length s0) none (some z2)) (gAnd (decide (List.length (hexT n3 ++ [13, 10]) + List.length (cutL s0 none (some z2)) ≤ 9223372036854775807)) (gAnd (decide (List.length (hexT n3 ++ [13, 10] ++ cutL s0 none (some z2)) + 2 ≤ 9223372036854775807)) (gAnd (tagOk [Blk.grow g0 1 3, Blk.grow g1 1 5] (List.length e7) 1 5 (some 1) && true && true && decide ((List.length e7 + List.length (hexT n3 ++ [13, 10] ++ cutL s0 none (some z2) ++ [13, 10])) * 1 ≤ 140737488355328) && true && true) (gAnd (cutOb (List.length s0) (some z2) none) (gAnd (lowVss 2 e5 && true && (lowVss 2 (e7 ++ List.map (fun (b : UInt8) ↦ [AV.int IntKind.u8 (↑(UInt8.toNat b) : Int)]) (hexT n3 ++ [13, 10] ++ cutL s0 none (some z2) ++ [13, 10])) && true && true) && true) (ToEnd cfg 29 (bodyOf Tryd.f29) (RetIs Tryd.prog Tryd.f29 v) [Fm.code [0, 0, 1, 1, 1, 1, 1], Fm.block 2, Fm.code [1, 1, 1, 1, 1, 1]] XT.normal [(0, true, AV.str (cutL s0 (some z2) none)), (5, true, AV.sl 1 e5 (some 0)), (7, true, AV.sl 1 (e7 ++ List.map (fun (b : UInt8) ↦ [AV.int IntKind.u8 (↑(UInt8.toNat b) : Int)]) (hexT n3 ++ [13, 10] ++ cutL s0 none (some z2) ++ [13, 10])) (some 1)), (8, true, AV.int IntKind.i64 (IntKind.wrap IntKind.i64 (i8 + 1)))] [Blk.grow g0 1 3, Blk.grow (List.length e7 + List.length (hexT n3 ++ [13, 10] ++ cutL s0 none (some z2) ++ [13, 10])) 1 5])))))))))) (∃ (n4 : Nat), n4 ≤ 10000000 ∧ [AV.int IntKind.i64 (↑(List.length s0) : Int)] = [AV.int IntKind.i64 (↑n4 : Int)] ∧ gAnd (decide (List.length (hexT n4) + 2 ≤ 9223372036854775807)) (gAnd (cutOb (List.length s0) none (some (↑(List.length s0) : Int))) (gAnd (decide (List.length (hexT n4 ++ [13, 10]) + List.length (cutL s0 none (some (↑(List.length s0) : Int))) ≤ 9223372036854775807)) (gAnd (decide (List.length (hexT n4 ++ [13, 10] ++ cutL s0 none (some (↑(List.length s0) : Int))) + 2 ≤ 9223372036854775807)) (gAnd (tagOk [Blk.grow g0 1 3, Blk.grow g1 1 5] (List.length e7) 1 5 (some 1) && true && true && decide ((List.length e7 + List.length (hexT n4 ++ [13, 10] ++ cutL s0 none (some (↑(List.length s0) : Int)) ++ [13, 10])) * 1 ≤ 140737488355328) && true && true) (gAnd (cutOb (List.length s0) (some (↑(List.length s0) : Int)) none) (gAnd (lowVss 2 e5 && true && (lowVss 2 (e7 ++ List.map (fun (b : UInt8) ↦ [AV.int IntKind.u8 (↑(UInt8.toNat b) : Int)]) (hexT n4 ++ [13, 10] ++ cutL s0 none (some (↑(List.length s0) : Int)) ++ [13, 10])) && true && true) && true) (ToEnd cfg 29 (bodyOf Tryd.f29) (RetIs Tryd.prog Tryd.f29 v) [Fm.code [0, 0, 1, 1, 1, 1, 1], Fm.block 2, Fm.code [1, 1, 1, 1, 1, 1]] XT.normal [(0, true, AV.str (cutL s0 (some (↑(List.length s0) : Int)) none)), (5, true, AV.sl 1 e5 (some 0)), (7, true, AV.sl 1 (e7 ++ List.map (fun (b : UInt8) ↦ [AV.int IntKind.u8 (↑(UInt8.toNat b) : Int)]) (hexT n4 ++ [13, 10] ++ cutL s0 none (some (↑(List.length s0) : Int)) ++ [13, 10])) (some 1)), (8, true, AV.int IntKind.i64 (IntKind.wrap IntKind.i64 (i8 + 1)))] [Blk.grow g0 1 3, Blk.grow (List.length e7 + List.length (hexT n4 ++ [13, 10] ++ cutL s0 none (some (↑(List.length s0) : Int)) ++ [13, 10])) 1 5])))))))))))
    (∃ (n5 : Nat), n5 ≤ 10000000 ∧ [AV.int IntKind.i64 (↑(List.length s0) : Int)] = [AV.int IntKind.i64 (↑n5 : Int)] ∧ gAnd (decide (List.length (hexT n5) + 2 ≤ 9223372036854775807)) (gAnd (cutOb (List.length s0) none (some (↑(List.length s0) : Int))) (gAnd (decide (List.length (hexT n5 ++ [13, 10]) + List.length (cutL s0 none (some (↑(List.length s0) : Int))) ≤ 9223372036854775807)) (gAnd (decide (List.length (hexT n5 ++ [13, 10] ++ cutL s0 none (some (↑(List.length s0) : Int))) + 2 ≤ 9223372036854775807)) (gAnd (tagOk [Blk.grow g0 1 3, Blk.grow g1 1 5] (List.length e7) 1 5 (some 1) && true && true && decide ((List.length e7 + List.length (hexT n5 ++ [13, 10] ++ cutL s0 none (some (↑(List.length s0) : Int)) ++ [13, 10])) * 1 ≤ 140737488355328) && true && true) (gAnd (cutOb (List.length s0) (some (↑(List.length s0) : Int)) none) (gAnd (lowVss 2 e5 && true && (lowVss 2 (e7 ++ List.map (fun (b : UInt8) ↦ [AV.int IntKind.u8 (↑(UInt8.toNat b) : Int)]) (hexT n5 ++ [13, 10] ++ cutL s0 none (some (↑(List.length s0) : Int)) ++ [13, 10])) && true && true) && true) (ToEnd cfg 29 (bodyOf Tryd.f29) (RetIs Tryd.prog Tryd.f29 v) [Fm.code [0, 0, 1, 1, 1, 1, 1], Fm.block 2, Fm.code [1, 1, 1, 1, 1, 1]] XT.normal [(0, true, AV.str (cutL s0 (some (↑(List.length s0) : Int)) none)), (5, true, AV.sl 1 e5 (some 0)), (7, true, AV.sl 1 (e7 ++ List.map (fun (b : UInt8) ↦ [AV.int IntKind.u8 (↑(UInt8.toNat b) : Int)]) (hexT n5 ++ [13, 10] ++ cutL s0 none (some (↑(List.length s0) : Int)) ++ [13, 10])) (some 1)), (8, true, AV.int IntKind.i64 (IntKind.wrap IntKind.i64 (i8 + 1)))] [Blk.grow g0 1 3, Blk.grow (List.length e7 + List.length (hexT n5 ++ [13, 10] ++ cutL s0 none (some (↑(List.length s0) : Int)) ++ [13, 10])) 1 5])))))))))
  (gAnd (rowsB e7) (gAnd (decide (List.length (List.map rowV e7) + 5 ≤ 9223372036854775807)) (AV.str (List.map rowV e7 ++ [48, 13, 10, 13, 10]) = v)))) :
    ToEnd cfg 29 (bodyOf Tryd.f29) (RetIs Tryd.prog Tryd.f29 v) ([.code [0, 0, 1, 1, 1, 1, 1], Fm.block 2, Fm.code [1, 1, 1, 1, 1, 1]]) .normal ([(0, true, AV.str s0), (5, true, AV.sl 1 e5 (some 0)), (7, true, AV.sl 1 e7 (some 1)), (8, true, AV.int IntKind.i64 i8)]) ([Blk.grow g0 1 3, Blk.grow g1 1 5]) := by
  have e : unr cfg 29 (bodyOf Tryd.f29) (ctab [(51, hexTC)]) ⟨[[0, 1, 0, 1, 1], [0, 0, 1, 1, 1, 1, 1]], [([0, 0, 0, 1, 0, 0, 1, 0, 1, 1], 2, [.int .i64]), ([0, 1, 0, 0, 1, 0, 0, 1, 0, 1, 1], 3, [.int .i64]), ([0, 0, 1, 0, 1, 0, 0, 0, 1, 1, 1, 1, 1], 9, [.int .i64]), ([0, 1, 0, 1, 0, 1, 0, 0, 0, 1, 1, 1, 1, 1], 5, [.int .i64])]⟩ (RetIs Tryd.prog Tryd.f29 v) 100000 ([.code [0, 0, 0, 1, 1, 1, 1, 1], .loop [0, 0, 1, 1, 1, 1, 1] 2, Fm.block 2, Fm.code [1, 1, 1, 1, 1, 1]]) .normal ([(0, true, AV.str s0), (5, true, AV.sl 1 e5 (some 0)), (7, true, AV.sl 1 e7 (some 1)), (8, true, AV.int IntKind.i64 i8)]) ([Blk.grow g0 1 3, Blk.grow g1 1 5]) =
    (ifP (decide ((↑(List.length s0) : Int) > 0))
  (ifP (decide ((↑(List.length e5) : Int) > 0)) (gAnd (!decide ((↑(List.length e5) : Int) = 0)) (gAnd (inR (Int.tmod i8 (↑(List.length e5) : Int)) (List.length e5) && true && true) (∃ (z1 : Int), getE e5 (Int.tmod i8 (↑(List.length e5) : Int)) = [AV.int IntKind.i64 z1] ∧ ifP (decide (z1 < (↑(List.length s0) : Int))) (gAnd (!decide ((↑(List.length e5) : Int) = 0)) (gAnd (inR (Int.tmod i8 (↑(List.length e5) : Int)) (List.length e5) && true && true) (∃ (z2 : Int), getE e5 (Int.tmod i8 (↑(List.length e5) : Int)) = [AV.int IntKind.i64 z2] ∧ ∃ (n3 : Nat), n3 ≤ 10000000 ∧ [AV.int IntKind.i64 z2] = [AV.int IntKind.i64 (↑n3 : Int)] ∧ gAnd (decide (List.length (hexT n3) + 2 ≤ 9223372036854775807)) (gAnd (cutOb (List.length s0) none (some z2)) (gAnd (decide (List.length (hexT n3 ++ [13, 10]) + List.length (cutL s0 none (some z2)) ≤ 9223372036854775807)) (gAnd (decide (List.length (hexT n3 ++ [13, 10] ++ cutL s0 none (some z2)) + 2 ≤ 9223372036854775807)) (gAnd (tagOk [Blk.grow g0 1 3, Blk.grow g1 1 5] (List.length e7) 1 5 (some 1) && true && true && decide ((List.length e7 + List.length (hexT n3 ++ [13, 10] ++ cutL s0 none (some z2) ++ [13, 10])) * 1 ≤ 140737488355328) && true && true) (gAnd (cutOb (List.length s0) (some z2) none) (gAnd (lowVss 2 e5 && true && (lowVss 2 (e7 ++ List.map (fun (b : UInt8) ↦ [AV.int IntKind.u8 (↑(UInt8.toNat b) : Int)]) (hexT n3 ++ [13, 10] ++ cutL s0 none (some z2) ++ [13, 10])) && true && true) && true) (ToEnd cfg 29 (bodyOf Tryd.f29) (RetIs Tryd.prog Tryd.f29 v) [Fm.code [0, 0, 1, 1, 1, 1, 1], Fm.block 2, Fm.code [1, 1, 1, 1, 1, 1]] XT.normal [(0, true, AV.str (cutL s0 (some z2) none)), (5, true, AV.sl 1 e5 (some 0)), (7, true, AV.sl 1 (e7 ++ List.map (fun (b : UInt8) ↦ [AV.int IntKind.u8 (↑(UInt8.toNat b) : Int)]) (hexT n3 ++ [13, 10] ++ cutL s0 none (some z2) ++ [13, 10])) (some 1)), (8, true, AV.int IntKind.i64 (IntKind.wrap IntKind.i64 (i8 + 1)))] [Blk.grow g0 1 3, Blk.grow (List.length e7 + List.length (hexT n3 ++ [13, 10] ++ cutL s0 none (some z2) ++ [13, 10])) 1 5])))))))))) (∃ (n4 : Nat), n4 ≤ 10000000 ∧ [AV.int IntKind.i64 (↑(List.length s0) : Int)] = [AV.int IntKind.i64 (↑n4 : Int)] ∧ gAnd (decide (List.length (hexT n4) + 2 ≤ 9223372036854775807)) (gAnd (cutOb (List.length s0) none (some (↑(List.length s0) : Int))) (gAnd (decide (List.length (hexT n4 ++ [13, 10]) + List.length (cutL s0 none (some (↑(List.length s0) : Int))) ≤ 9223372036854775807)) (gAnd (decide (List.length (hexT n4 ++ [13, 10] ++ cutL s0 none (some (↑(List.length s0) : Int))) + 2 ≤ 9223372036854775807)) (gAnd (tagOk [Blk.grow g0 1 3, Blk.grow g1 1 5] (List.length e7) 1 5 (some 1) && true && true && decide ((List.length e7 + List.length (hexT n4 ++ [13, 10] ++ cutL s0 none (some (↑(List.length s0) : Int)) ++ [13, 10])) * 1 ≤ 140737488355328) && true && true) (gAnd (cutOb (List.length s0) (some (↑(List.length s0) : Int)) none) (gAnd (lowVss 2 e5 && true && (lowVss 2 (e7 ++ List.map (fun (b : UInt8) ↦ [AV.int IntKind.u8 (↑(UInt8.toNat b) : Int)]) (hexT n4 ++ [13, 10] ++ cutL s0 none (some (↑(List.length s0) : Int)) ++ [13, 10])) && true && true) && true) (ToEnd cfg 29 (bodyOf Tryd.f29) (RetIs Tryd.prog Tryd.f29 v) [Fm.code [0, 0, 1, 1, 1, 1, 1], Fm.block 2, Fm.code [1, 1, 1, 1, 1, 1]] XT.normal [(0, true, AV.str (cutL s0 (some (↑(List.length s0) : Int)) none)), (5, true, AV.sl 1 e5 (some 0)), (7, true, AV.sl 1 (e7 ++ List.map (fun (b : UInt8) ↦ [AV.int IntKind.u8 (↑(UInt8.toNat b) : Int)]) (hexT n4 ++ [13, 10] ++ cutL s0 none (some (↑(List.length s0) : Int)) ++ [13, 10])) (some 1)), (8, true, AV.int IntKind.i64 (IntKind.wrap IntKind.i64 (i8 + 1)))] [Blk.grow g0 1 3, Blk.grow (List.length e7 + List.length (hexT n4 ++ [13, 10] ++ cutL s0 none (some (↑(List.length s0) : Int)) ++ [13, 10])) 1 5])))))))))))
    (∃ (n5 : Nat), n5 ≤ 10000000 ∧ [AV.int IntKind.i64 (↑(List.length s0) : Int)] = [AV.int IntKind.i64 (↑n5 : Int)] ∧ gAnd (decide (List.length (hexT n5) + 2 ≤ 9223372036854775807)) (gAnd (cutOb (List.length s0) none (some (↑(List.length s0) : Int))) (gAnd (decide (List.length (hexT n5 ++ [13, 10]) + List.length (cutL s0 none (some (↑(List.length s0) : Int))) ≤ 9223372036854775807)) (gAnd (decide (List.length (hexT n5 ++ [13, 10] ++ cutL s0 none (some (↑(List.length s0) : Int))) + 2 ≤ 9223372036854775807)) (gAnd (tagOk [Blk.grow g0 1 3, Blk.grow g1 1 5] (List.length e7) 1 5 (some 1) && true && true && decide ((List.length e7 + List.length (hexT n5 ++ [13, 10] ++ cutL s0 none (some (↑(List.length s0) : Int)) ++ [13, 10])) * 1 ≤ 140737488355328) && true && true) (gAnd (cutOb (List.length s0) (some (↑(List.length s0) : Int)) none) (gAnd (lowVss 2 e5 && true && (lowVss 2 (e7 ++ List.map (fun (b : UInt8) ↦ [AV.int IntKind.u8 (↑(UInt8.toNat b) : Int)]) (hexT n5 ++ [13, 10] ++ cutL s0 none (some (↑(List.length s0) : Int)) ++ [13, 10])) && true && true) && true) (ToEnd cfg 29 (bodyOf Tryd.f29) (RetIs Tryd.prog Tryd.f29 v) [Fm.code [0, 0, 1, 1, 1, 1, 1], Fm.block 2, Fm.code [1, 1, 1, 1, 1, 1]] XT.normal [(0, true, AV.str (cutL s0 (some (↑(List.length s0) : Int)) none)), (5, true, AV.sl 1 e5 (some 0)), (7, true, AV.sl 1 (e7 ++ List.map (fun (b : UInt8) ↦ [AV.int IntKind.u8 (↑(UInt8.toNat b) : Int)]) (hexT n5 ++ [13, 10] ++ cutL s0 none (some (↑(List.length s0) : Int)) ++ [13, 10])) (some 1)), (8, true, AV.int IntKind.i64 (IntKind.wrap IntKind.i64 (i8 + 1)))] [Blk.grow g0 1 3, Blk.grow (List.length e7 + List.length (hexT n5 ++ [13, 10] ++ cutL s0 none (some (↑(List.length s0) : Int)) ++ [13, 10])) 1 5])))))))))
  (gAnd (rowsB e7) (gAnd (decide (List.length (List.map rowV e7) + 5 ≤ 9223372036854775807)) (AV.str (List.map rowV e7 ++ [48, 13, 10, 13, 10]) = v)))) := by kernel_rfl
  exact ends_round hT 100000 (by kernel_rfl) (e.mpr H)

end Go.Proofs.YtnncfdlpogjlkaaDoor
end

section
namespace Go.Proofs.YtnncfdlpogjlkaaDoor
open Go.Ai Go
set_option linter.unusedSimpArgs false
set_option linter.unusedVariables false
set_option linter.unnecessarySimpa false
set_option maxRecDepth 100000

theorem pf28 : pureFn cfg 28 Tryd.f28 := ⟨by kernel_rfl, by kernel_rfl, by kernel_rfl, by kernel_rfl, by kernel_rfl, by kernel_rfl⟩
theorem pf29 : pureFn cfg 29 Tryd.f29 := ⟨by kernel_rfl, by kernel_rfl, by kernel_rfl, by kernel_rfl, by kernel_rfl, by kernel_rfl⟩
def encN (l : List Nat) : List (List AV) := l.map fun n => [AV.int .i64 ((n : Nat) : Int)]
theorem encN_len (l : List Nat) : (encN l).length = l.length := by simp [encN]
theorem low_encN (n : Nat) (l : List Nat) : lowVss n (encN l) = true := lowss_pure n _ fun x hx => by
  obtain ⟨b, _, rfl⟩ := List.mem_map.1 hx
  rfl
theorem low_encI' (n : Nat) (l : List Int) : lowVss n (encI' l) = true := lowss_pure n _ fun x hx => by
  obtain ⟨b, _, rfl⟩ := List.mem_map.1 hx
  rfl
theorem encI'_len (l : List Int) : (encI' l).length = l.length := by simp [encI']
theorem getE_I (pre r : List Int) (x : Int) : getE (encI' (pre ++ x :: r)) (pre.length : Nat) = [.int .i64 x] := by
  unfold getE encI'
  simp
theorem getE_N {l : List Nat} {k : Nat} (h : k < l.length) : getE (encN l) (k : Nat) = [.int .i64 ((l.getD k 0 : Nat) : Int)] := by
  unfold getE encN
  simp [List.getD_eq_getElem?_getD, List.getElem?_eq_getElem h]
theorem posL_snoc (pre : List Int) (x : Int) : posL (pre ++ [x]) = if 0 < x then posL pre ++ [x.toNat] else posL pre := by
  unfold posL
  rw [List.filter_append, List.map_append]
  by_cases h : 0 < x
  · rw [if_pos h]; simp [h]
  · rw [if_neg h]; simp [h]
theorem posL_len (l : List Int) : (posL l).length ≤ l.length := by
  unfold posL
  rw [List.length_map]
  exact List.length_filter_le _ _
theorem encN_snoc {x : Int} (l : List Nat) (h : 0 < x) : encN l ++ [[AV.int .i64 x]] = encN (l ++ [x.toNat]) := by
  unfold encN
  rw [List.map_append]
  simp only [List.map_cons, List.map_nil]
  rw [Int.toNat_of_nonneg (by omega)]
theorem encG_nil (l : List Nat) : ∀ (g k : Nat), encG l g k [] = []
  | 0, k => rfl
  | g + 1, k => by rw [encG, if_pos rfl]
theorem stepN_ne {l : List Nat} (h : l ≠ []) (k n : Nat) : stepN l k n = min (l.getD (k % l.length) 0) n := by unfold stepN; rw [if_neg h]
theorem tab28 : TabOk cfg (ctab [(50, hexPC), (39, writeA), (41, strA)]) := ctab_ok (ctab_cons c50 (ctab_cons c39 (ctab_cons c41 ctab_nil)))
theorem end28 (acc : List UInt8) : acc ++ [48] ++ [13, 10] ++ [13, 10] = acc ++ zeroT := by simp [zeroT]
/-- What one chunk is. -/
theorem chunk_len {n : Nat} {s : List UInt8} (h0 : 0 < n) (h1 : n ≤ s.length) (h2 : s.length ≤ 1000000) : (hexT n ++ [13, 10] ++ s.take n ++ [13, 10]).length ≤ 13 * n ∧ (hexT n).length ≤ 8 := by
  have hl := hexS_len 17 n 8 (by omega) (by omega)
  have : (hexT n).length ≤ 8 := hl
  refine ⟨?_, this⟩
  simp only [List.length_append, List.length_take, List.length_cons, List.length_nil]
  omega
theorem cut_to {s : List UInt8} {n : Nat} : cutL s none (some (n : Int)) = s.take n := by simp [cutL]
theorem cutOb_to {s : List UInt8} {n : Nat} (h : n ≤ s.length) : cutOb s.length none (some (n : Int)) = true := by simp [cutOb]; omega
theorem encG_step {l : List Nat} {g k : Nat} {s : List UInt8} (hs : s ≠ []) {n : Nat} (hn : stepN l k s.length = n) (acc : List UInt8) :
    acc ++ encG l (g + 1) k s ++ zeroT = (acc ++ (hexT n ++ [13, 10] ++ s.take n ++ [13, 10])) ++ encG l g (k + 1) (s.drop n) ++ zeroT := by
  rw [encG, if_neg hs, hn]
  simp [crlf]
theorem loop28c {L : List Nat} (hL : L ≠ []) (hp : ∀ x ∈ L, 0 < x) {N : Nat} (hN : N ≤ 1000000) : ∀ (g i : Nat) (s acc : List UInt8) (p : AV) (q : Nat), s.length ≤ g → s.length + i ≤ N → (p = .nilp ∨ p = .ptr 2 0) → acc.length + 13 * s.length ≤ 100000000 →
    ToEnd cfg 28 (bodyOf Tryd.f28) (RetIs Tryd.prog Tryd.f28 (.str (acc ++ encG L g i s ++ zeroT))) [.code [0, 1, 0, 1, 1, 1, 1, 1], .block 2, .code [1, 1, 1, 1, 1, 1]] .normal
      [(0, true, .str s), (5, true, .sl 1 (encN L) (some 0)), (8, true, .ptr 2 0), (32, true, .int .i64 N), (33, true, .int .i64 i)] [.grow q 1 3, .grow acc.length 1 5, .mem 71 [p, .sl 1 (rb acc) (some 1)]] := by
  intro g
  have fin : ∀ (g i : Nat) (s acc : List UInt8), s = [] → acc.length ≤ 100000000 → ∃ acc1 : List UInt8, (1 = 1 ∧ 5 = 5 ∧ 71 = 71 ∧ 1 = 1 ∧ 1 = 1) ∧ rb acc = rb acc1 ∧ acc.length = acc1.length ∧ [AV.ptr 2 0] = [AV.ptr 2 0] ∧
      gAnd (decide (acc1.length + 1 ≤ 9223372036854775807)) (gAnd (decide ((acc1 ++ [48]).length + 2 ≤ 9223372036854775807)) (gAnd (decide ((acc1 ++ [48] ++ [13, 10]).length + 2 ≤ 9223372036854775807)) (AV.str (acc1 ++ [48] ++ [13, 10] ++ [13, 10]) = AV.str (acc ++ encG L g i s ++ zeroT)))) := fun g i s acc hs ha => by
    subst hs
    refine ⟨acc, ⟨rfl, rfl, rfl, rfl, rfl⟩, rfl, rfl, rfl, gAnd_intro (decide_eq_true (by omega)) (gAnd_intro (decide_eq_true (by simp; omega)) (gAnd_intro (decide_eq_true (by simp; omega)) ?_))⟩
    rw [encG_nil, List.append_nil, end28]
  induction g with
  | zero =>
    intro i s acc p q hg hi hpp ha
    have hs : s = [] := List.eq_nil_of_length_eq_zero (by omega)
    have := fin 0 i s acc hs (by omega)
    exact t28c tab28 (ifP_intro (fun _ => ifP_intro (fun _ => this) fun b => by subst hs; simp at b) fun _ => this)
  | succ g ih =>
    intro i s acc p q hg hi hpp ha
    by_cases hs : s = []
    · have := fin (g + 1) i s acc hs (by omega)
      exact t28c tab28 (ifP_intro (fun _ => ifP_intro (fun _ => this) fun b => by subst hs; simp at b) fun _ => this)
    · have hs0 : 0 < s.length := List.length_pos_iff.2 hs
      have hl0 : 0 < L.length := List.length_pos_iff.2 hL
      have hmod : i % L.length < L.length := Nat.mod_lt _ hl0
      have e1 : Int.tmod (i : Int) ((encN L).length : Int) = ((i % L.length : Nat) : Int) := by rw [encN_len, Int.tmod_eq_emod_of_nonneg (by omega)]; rfl
      obtain ⟨n1, n2⟩ := stepN_pos (k := i) hp hs0
      have hst := stepN_ne hL i s.length
      generalize hn : stepN L i s.length = n at *
      have hmin : min (((L.getD (i % L.length) 0 : Nat) : Int)) (s.length : Int) = (n : Int) := by omega
      obtain ⟨k1, k2⟩ := chunk_len n1 n2 (by omega)
      have htk : (s.take n).length = n := by simp; omega
      refine t28c tab28 (ifP_intro (fun _ => ifP_intro (fun b => absurd (by simpa using b) hs) fun _ => gAnd_intro ?_ (gAnd_intro ?_ ⟨_, by rw [e1]; exact getE_N hmod, ?_⟩)) fun b => ?_)
      · rw [encN_len]; simp; omega
      · rw [e1, encN_len, inR_nat hmod]; rfl
      · rw [hmin]
        have hw : IntKind.wrap .i64 ((i : Int) + 1) = ((i + 1 : Nat) : Int) := by rw [wrap_in (by omega) (by omega)]; omega
        refine ⟨n, by omega, rfl, gAnd_intro (decide_eq_true (by omega)) (gAnd_intro (cutOb_to n2) ?_)⟩
        rw [cut_to, cut_from, hw]
        refine gAnd_intro (decide_eq_true (by rw [List.length_append, htk]; simp; omega)) (gAnd_intro (decide_eq_true (by rw [List.length_append, List.length_append, htk]; simp; omega)) ⟨acc, hexT n ++ [13, 10] ++ s.take n ++ [13, 10], ⟨rfl, rfl, rfl, rfl, rfl⟩, hpp, rfl, rfl, by omega, rfl, gAnd_intro (cutOb_from n2) (gAnd_intro (by rw [low_encN, low_rb]; rfl) ?_)⟩)
        rw [encG_step hs hn]
        exact ih (i + 1) (s.drop n) _ (.ptr 2 0) q (by simp; omega) (by simp; omega) (.inr rfl) (by rw [List.length_append, List.length_drop]; omega)
      · simp only [decide_eq_false_iff_not] at b; omega
theorem loop28d {L : List Nat} (hL : L ≠ []) (hp : ∀ x ∈ L, 0 < x) {N : Nat} (hN : N ≤ 1000000) : ∀ (g i : Nat) (s acc : List UInt8) (p : AV) (q m : Nat), s.length ≤ g → s.length + i ≤ N → (p = .nilp ∨ p = .ptr 3 0) → acc.length + 13 * s.length ≤ 100000000 →
    ToEnd cfg 28 (bodyOf Tryd.f28) (RetIs Tryd.prog Tryd.f28 (.str (acc ++ encG L g i s ++ zeroT))) [.code [0, 1, 0, 1, 1, 1, 1, 1], .block 2, .code [1, 1, 1, 1, 1, 1]] .normal
      [(0, true, .str s), (5, true, .sl 1 (encN L) (some 1)), (8, true, .ptr 3 0), (32, true, .int .i64 N), (33, true, .int .i64 i)] [.grow q 1 3, .grow m 1 3, .grow acc.length 1 5, .mem 71 [p, .sl 1 (rb acc) (some 2)]] := by
  intro g
  have fin : ∀ (g i : Nat) (s acc : List UInt8), s = [] → acc.length ≤ 100000000 → ∃ acc1 : List UInt8, (1 = 1 ∧ 5 = 5 ∧ 71 = 71 ∧ 1 = 1 ∧ 2 = 2) ∧ rb acc = rb acc1 ∧ acc.length = acc1.length ∧ [AV.ptr 3 0] = [AV.ptr 3 0] ∧
      gAnd (decide (acc1.length + 1 ≤ 9223372036854775807)) (gAnd (decide ((acc1 ++ [48]).length + 2 ≤ 9223372036854775807)) (gAnd (decide ((acc1 ++ [48] ++ [13, 10]).length + 2 ≤ 9223372036854775807)) (AV.str (acc1 ++ [48] ++ [13, 10] ++ [13, 10]) = AV.str (acc ++ encG L g i s ++ zeroT)))) := fun g i s acc hs ha => by
    subst hs
    refine ⟨acc, ⟨rfl, rfl, rfl, rfl, rfl⟩, rfl, rfl, rfl, gAnd_intro (decide_eq_true (by omega)) (gAnd_intro (decide_eq_true (by simp; omega)) (gAnd_intro (decide_eq_true (by simp; omega)) ?_))⟩
    rw [encG_nil, List.append_nil, end28]
  induction g with
  | zero =>
    intro i s acc p q m hg hi hpp ha
    have hs : s = [] := List.eq_nil_of_length_eq_zero (by omega)
    have := fin 0 i s acc hs (by omega)
    exact t28d tab28 (ifP_intro (fun _ => ifP_intro (fun _ => this) fun b => by subst hs; simp at b) fun _ => this)
  | succ g ih =>
    intro i s acc p q m hg hi hpp ha
    by_cases hs : s = []
    · have := fin (g + 1) i s acc hs (by omega)
      exact t28d tab28 (ifP_intro (fun _ => ifP_intro (fun _ => this) fun b => by subst hs; simp at b) fun _ => this)
    · have hs0 : 0 < s.length := List.length_pos_iff.2 hs
      have hl0 : 0 < L.length := List.length_pos_iff.2 hL
      have hmod : i % L.length < L.length := Nat.mod_lt _ hl0
      have e1 : Int.tmod (i : Int) ((encN L).length : Int) = ((i % L.length : Nat) : Int) := by rw [encN_len, Int.tmod_eq_emod_of_nonneg (by omega)]; rfl
      obtain ⟨n1, n2⟩ := stepN_pos (k := i) hp hs0
      have hst := stepN_ne hL i s.length
      generalize hn : stepN L i s.length = n at *
      have hmin : min (((L.getD (i % L.length) 0 : Nat) : Int)) (s.length : Int) = (n : Int) := by omega
      obtain ⟨k1, k2⟩ := chunk_len n1 n2 (by omega)
      have htk : (s.take n).length = n := by simp; omega
      refine t28d tab28 (ifP_intro (fun _ => ifP_intro (fun b => absurd (by simpa using b) hs) fun _ => gAnd_intro ?_ (gAnd_intro ?_ ⟨_, by rw [e1]; exact getE_N hmod, ?_⟩)) fun b => ?_)
      · rw [encN_len]; simp; omega
      · rw [e1, encN_len, inR_nat hmod]; rfl
      · rw [hmin]
        have hw : IntKind.wrap .i64 ((i : Int) + 1) = ((i + 1 : Nat) : Int) := by rw [wrap_in (by omega) (by omega)]; omega
        refine ⟨n, by omega, rfl, gAnd_intro (decide_eq_true (by omega)) (gAnd_intro (cutOb_to n2) ?_)⟩
        rw [cut_to, cut_from, hw]
        refine gAnd_intro (decide_eq_true (by rw [List.length_append, htk]; simp; omega)) (gAnd_intro (decide_eq_true (by rw [List.length_append, List.length_append, htk]; simp; omega)) ⟨acc, hexT n ++ [13, 10] ++ s.take n ++ [13, 10], ⟨rfl, rfl, rfl, rfl, rfl⟩, hpp, rfl, rfl, by omega, rfl, gAnd_intro (cutOb_from n2) (gAnd_intro (by rw [low_encN, low_rb]; rfl) ?_)⟩)
        rw [encG_step hs hn]
        exact ih (i + 1) (s.drop n) _ (.ptr 3 0) q m (by simp; omega) (by simp; omega) (.inr rfl) (by rw [List.length_append, List.length_drop]; omega)
      · simp only [decide_eq_false_iff_not] at b; omega
theorem encG_one {N : Nat} : ∀ (g k : Nat) (s : List UInt8), s.length ≤ N → encG [max 1 N] g k s = encG [] g k s
  | 0, k, s, _ => rfl
  | g + 1, k, s, h => by
    have e1 : stepN [max 1 N] k s.length = s.length := by
      rw [stepN_ne (by simp)]
      have : k % 1 = 0 := Nat.mod_one k
      simp [this]
      omega
    have e2 : stepN [] k s.length = s.length := rfl
    rw [encG, encG, e1, e2, encG_one g (k + 1) _ (by simp)]
theorem loop28b {s : List UInt8} (hs : s.length ≤ 1000000) {sz : Nat} : ∀ (r pre : List Int), (pre ++ r).length ≤ 1000 → szOk sz 1 (pre ++ r).length → (∀ n ∈ pre ++ r, -9223372036854775808 ≤ n ∧ n ≤ 9223372036854775807) →
    ToEnd cfg 28 (bodyOf Tryd.f28) (RetIs Tryd.prog Tryd.f28 (.str (encA s (pre ++ r)))) [.code [0, 1, 0, 1, 1], .block 0, .code [1, 1, 1]] .normal
      [(0, true, .str s), (5, true, .sl 1 (encN (posL pre)) (some 0)), (11, true, .sl sz (encI' (pre ++ r)) none), (12, true, .int .i64 ((pre ++ r).length : Nat)), (13, true, .int .i64 pre.length)] [.grow (posL pre).length 1 3] := by
  intro r
  induction r with
  | nil =>
    intro pre hl hz hn
    refine t28b tab28 (ifP_intro (fun a => by simp at a) fun _ => ?_)
    rw [List.append_nil]
    have hlen : (encN (posL pre)).length = (posL pre).length := encN_len _
    rw [hlen]
    have hout : encA s pre = [] ++ encG (posL pre) s.length 0 s ++ zeroT := by unfold encA; simp [zeroT]
    refine ifP_intro (fun b => ?_) fun b => ?_
    · have hb : posL pre = [] := by rw [beq_iff_eq] at b; exact List.eq_nil_of_length_eq_zero (by omega)
      have hmax : max 1 (s.length : Int) = ((max 1 s.length : Nat) : Int) := by omega
      rw [hmax, hout, hb, ← encG_one (N := s.length) _ _ _ (Nat.le_refl _)]
      exact loop28d (L := [max 1 s.length]) (by simp) (by simp; omega) hs s.length 0 s [] .nilp _ 1 (Nat.le_refl _) (by omega) (.inl rfl) (by simp; omega)
    · have hb : posL pre ≠ [] := by rw [beq_eq_false_iff_ne] at b; rintro h; rw [h] at b; simp at b
      rw [hout]
      exact loop28c hb (posL_pos pre) hs s.length 0 s [] .nilp _ (Nat.le_refl _) (by omega) (.inl rfl) (by simp; omega)
  | cons x r ih =>
    intro pre hl hz hn
    have hlen : (encN (posL pre)).length = (posL pre).length := encN_len _
    have hpl := posL_len pre
    have hl' : pre.length + r.length + 1 ≤ 1000 := by simp at hl; omega
    have hw : IntKind.wrap .i64 ((pre.length : Int) + 1) = ((pre.length + 1 : Nat) : Int) := by rw [wrap_in (by omega) (by omega)]; omega
    have := ih (pre ++ [x]) (by simpa using hl) (by simpa using hz) (by simpa using hn)
    rw [posL_snoc] at this
    refine t28b tab28 (ifP_intro (fun _ => gAnd_intro ?_ ⟨x, getE_I _ _ _, ifP_intro (fun b => gAnd_intro ?_ (gAnd_intro ?_ ?_)) fun b => gAnd_intro ?_ ?_⟩) fun a => by simp at a; omega)
    · rw [encI'_len, inR_nat (by simp), Bool.true_and]
      exact hz.beq (by simp; omega) (by decide)
    · rw [hlen, tag_ok rfl, decide_eq_true (by omega)]; rfl
    · rw [encN_snoc _ (by simpa using b), low_encN, low_encI']; rfl
    · have hx : 0 < x := by simpa using b
      rw [if_pos hx] at this
      rw [encN_snoc _ hx, hw, hlen]
      simpa using this
    · rw [low_encN, low_encI']; rfl
    · have hx : ¬ 0 < x := by simpa using b
      rw [if_neg hx] at this
      rw [hw]
      simpa using this
theorem c28 : COk cfg 28 encC := by
  refine cok_pure pf28 fun vs h K ht => ?_
  obtain ⟨s, l, sz, hs, hl, hn, hz, rfl, hk⟩ := ht
  refine ⟨_, hk, t28a tab28 ?_⟩
  have := loop28b hs l [] hl hz hn
  rw [List.nil_append] at this
  rw [encI'_len]
  exact this

/-! The document's -/
theorem tab29 : TabOk cfg (ctab [(51, hexTC)]) := ctab_ok (ctab_cons c51 ctab_nil)
theorem loop29c {L : List Nat} (hp : ∀ x ∈ L, 0 < x) : ∀ (g i : Nat) (s acc : List UInt8) (q : Nat), s.length ≤ g → s.length + i ≤ 1000000 → acc.length + 13 * s.length ≤ 100000000 →
    ToEnd cfg 29 (bodyOf Tryd.f29) (RetIs Tryd.prog Tryd.f29 (.str (acc ++ encG L g i s ++ zeroT))) [.code [0, 0, 1, 1, 1, 1, 1], .block 2, .code [1, 1, 1, 1, 1, 1]] .normal
      [(0, true, .str s), (5, true, .sl 1 (encN L) (some 0)), (7, true, .sl 1 (rb acc) (some 1)), (8, true, .int .i64 i)] [.grow q 1 3, .grow acc.length 1 5] := by
  intro g
  have fin : ∀ (g i : Nat) (s acc : List UInt8), s = [] → acc.length ≤ 100000000 → gAnd (rowsB (rb acc)) (gAnd (decide ((List.map rowV (rb acc)).length + 5 ≤ 9223372036854775807)) (AV.str (List.map rowV (rb acc) ++ [48, 13, 10, 13, 10]) = AV.str (acc ++ encG L g i s ++ zeroT))) := fun g i s acc hs ha => by
    subst hs
    refine gAnd_intro (rowsB_rb acc) ?_
    rw [rowV_rb, encG_nil, List.append_nil]
    exact gAnd_intro (decide_eq_true (by omega)) rfl
  induction g with
  | zero =>
    intro i s acc q hg hi ha
    have hs : s = [] := List.eq_nil_of_length_eq_zero (by omega)
    refine t29c tab29 (ifP_intro (fun b => by subst hs; simp at b) fun _ => fin 0 i s acc hs (by omega))
  | succ g ih =>
    intro i s acc q hg hi ha
    by_cases hs : s = []
    · exact t29c tab29 (ifP_intro (fun b => by subst hs; simp at b) fun _ => fin (g + 1) i s acc hs (by omega))
    · have hs0 : 0 < s.length := List.length_pos_iff.2 hs
      obtain ⟨n1, n2⟩ := stepN_pos (k := i) hp hs0
      generalize hn : stepN L i s.length = n at *
      obtain ⟨k1, k2⟩ := chunk_len n1 n2 (by omega)
      have htk : (s.take n).length = n := by simp; omega
      have hw : IntKind.wrap .i64 ((i : Int) + 1) = ((i + 1 : Nat) : Int) := by rw [wrap_in (by omega) (by omega)]; omega
      have piece : ∀ z : Int, z = (n : Int) → ∃ n5 : Nat, n5 ≤ 10000000 ∧ [AV.int .i64 z] = [AV.int .i64 (n5 : Int)] ∧ gAnd (decide ((hexT n5).length + 2 ≤ 9223372036854775807)) (gAnd (cutOb s.length none (some z)) (gAnd (decide ((hexT n5 ++ [13, 10]).length + (cutL s none (some z)).length ≤ 9223372036854775807)) (gAnd (decide ((hexT n5 ++ [13, 10] ++ cutL s none (some z)).length + 2 ≤ 9223372036854775807))
          (gAnd (tagOk [Blk.grow q 1 3, Blk.grow acc.length 1 5] (rb acc).length 1 5 (some 1) && true && true && decide (((rb acc).length + (hexT n5 ++ [13, 10] ++ cutL s none (some z) ++ [13, 10]).length) * 1 ≤ 140737488355328) && true && true) (gAnd (cutOb s.length (some z) none)
          (gAnd (lowVss 2 (encN L) && true && (lowVss 2 (rb acc ++ (hexT n5 ++ [13, 10] ++ cutL s none (some z) ++ [13, 10]).map (fun (b : UInt8) => [AV.int IntKind.u8 ((UInt8.toNat b : Nat) : Int)])) && true && true) && true)
          (ToEnd cfg 29 (bodyOf Tryd.f29) (RetIs Tryd.prog Tryd.f29 (.str (acc ++ encG L (g + 1) i s ++ zeroT))) [.code [0, 0, 1, 1, 1, 1, 1], .block 2, .code [1, 1, 1, 1, 1, 1]] .normal
            [(0, true, .str (cutL s (some z) none)), (5, true, .sl 1 (encN L) (some 0)), (7, true, .sl 1 (rb acc ++ (hexT n5 ++ [13, 10] ++ cutL s none (some z) ++ [13, 10]).map (fun (b : UInt8) => [AV.int IntKind.u8 ((UInt8.toNat b : Nat) : Int)])) (some 1)), (8, true, .int .i64 (IntKind.wrap .i64 ((i : Int) + 1)))]
            [Blk.grow q 1 3, Blk.grow ((rb acc).length + (hexT n5 ++ [13, 10] ++ cutL s none (some z) ++ [13, 10]).length) 1 5]))))))) := fun z hz => by
        subst hz
        refine ⟨n, by omega, rfl, gAnd_intro (decide_eq_true (by omega)) (gAnd_intro (cutOb_to n2) ?_)⟩
        rw [cut_to, cut_from, hw]
        have e : rb acc ++ (hexT n ++ [13, 10] ++ s.take n ++ [13, 10]).map (fun (b : UInt8) => [AV.int IntKind.u8 ((UInt8.toNat b : Nat) : Int)]) = rb (acc ++ (hexT n ++ [13, 10] ++ s.take n ++ [13, 10])) := (rb_app _ _).symm
        rw [e, rb_len, ← List.length_append]
        refine gAnd_intro (decide_eq_true (by rw [List.length_append, htk]; simp; omega)) (gAnd_intro (decide_eq_true (by rw [List.length_append, List.length_append, htk]; simp; omega)) (gAnd_intro ?_ (gAnd_intro (cutOb_from n2) (gAnd_intro (by rw [low_encN, low_rb]; rfl) ?_))))
        · rw [tag_ok rfl, decide_eq_true (by simp only [List.length_append] at k1 ⊢; omega)]; rfl
        · rw [encG_step hs hn]
          have hh := ih (i + 1) (s.drop n) (acc ++ (hexT n ++ [13, 10] ++ s.take n ++ [13, 10])) q (by simp; omega) (by simp; omega) (by rw [List.length_append, List.length_drop]; omega)
          have el : (acc ++ (hexT n ++ [13, 10] ++ s.take n ++ [13, 10])).length = acc.length + (hexT n ++ [13, 10] ++ s.take n ++ [13, 10]).length := List.length_append
          rw [el] at hh
          exact hh
      refine t29c tab29 (ifP_intro (fun _ => ifP_intro (fun b => ?_) fun b => ?_) fun b => ?_)
      · have hL : L ≠ [] := by rintro rfl; simp [encN] at b
        have hl0 : 0 < L.length := List.length_pos_iff.2 hL
        have hmod : i % L.length < L.length := Nat.mod_lt _ hl0
        have e1 : Int.tmod (i : Int) ((encN L).length : Int) = ((i % L.length : Nat) : Int) := by rw [encN_len, Int.tmod_eq_emod_of_nonneg (by omega)]; rfl
        have hst := stepN_ne hL i s.length
        rw [hn] at hst
        have h1 : (!decide (((encN L).length : Int) = 0)) = true := by rw [encN_len]; simp; omega
        have h2 : (inR (Int.tmod (i : Int) ((encN L).length : Int)) (encN L).length && true && true) = true := by rw [e1, encN_len, inR_nat hmod]; rfl
        refine gAnd_intro h1 (gAnd_intro h2 ⟨_, by rw [e1]; exact getE_N hmod, ifP_intro (fun c => gAnd_intro h1 (gAnd_intro h2 ⟨_, by rw [e1]; exact getE_N hmod, piece _ ?_⟩)) fun c => piece _ ?_⟩)
        · simp only [decide_eq_true_eq] at c; omega
        · simp only [decide_eq_false_iff_not] at c; omega
      · have hL : L = [] := by
          rw [encN_len] at b
          cases L with
          | nil => rfl
          | cons a l => simp at b
        subst hL
        exact piece _ (by rw [← hn]; rfl)
      · exact absurd (by simpa using b) hs
theorem loop29b {s : List UInt8} (hs : s.length ≤ 1000000) {sz : Nat} : ∀ (r pre : List Int), (pre ++ r).length ≤ 1000 → szOk sz 1 (pre ++ r).length → (∀ n ∈ pre ++ r, -9223372036854775808 ≤ n ∧ n ≤ 9223372036854775807) →
    ToEnd cfg 29 (bodyOf Tryd.f29) (RetIs Tryd.prog Tryd.f29 (.str (encA s (pre ++ r)))) [.code [0, 1, 0, 1, 1], .block 0, .code [1, 1, 1]] .normal
      [(0, true, .str s), (1, true, .sl sz (encI' (pre ++ r)) none), (5, true, .sl 1 (encN (posL pre)) (some 0)), (6, true, .int .i64 pre.length)] [.grow (posL pre).length 1 3] := by
  intro r
  induction r with
  | nil =>
    intro pre hl hz hn
    refine t29b tab29 (ifP_intro (fun a => by rw [encI'_len] at a; simp at a) fun _ => ?_)
    rw [List.append_nil]
    have hout : encA s pre = [] ++ encG (posL pre) s.length 0 s ++ zeroT := by unfold encA; simp [zeroT]
    rw [hout]
    exact loop29c (posL_pos pre) s.length 0 s [] _ (Nat.le_refl _) (by omega) (by simp; omega)
  | cons x r ih =>
    intro pre hl hz hn
    have hlen : (encN (posL pre)).length = (posL pre).length := encN_len _
    have hpl := posL_len pre
    have hl' : pre.length + r.length + 1 ≤ 1000 := by simp at hl; omega
    have hw : IntKind.wrap .i64 ((pre.length : Int) + 1) = ((pre.length + 1 : Nat) : Int) := by rw [wrap_in (by omega) (by omega)]; omega
    have := ih (pre ++ [x]) (by simpa using hl) (by simpa using hz) (by simpa using hn)
    rw [posL_snoc] at this
    have hin : (inR (pre.length : Int) (encI' (pre ++ x :: r)).length && Nat.beq sz 1 && Nat.ble 1 sz) = true := by
      rw [encI'_len, inR_nat (by simp), Bool.true_and]
      exact hz.beq (by simp; omega) (by decide)
    refine t29b tab29 (ifP_intro (fun _ => gAnd_intro hin ⟨x, getE_I _ _ _, ifP_intro (fun b => gAnd_intro hin ⟨x, getE_I _ _ _, gAnd_intro ?_ (gAnd_intro ?_ ?_)⟩) fun b => gAnd_intro ?_ ?_⟩) fun a => by rw [encI'_len] at a; simp at a; omega)
    · rw [hlen, tag_ok rfl, decide_eq_true (by omega)]; rfl
    · rw [encN_snoc _ (by simpa using b), low_encN, low_encI']; rfl
    · have hx : 0 < x := by simpa using b
      rw [if_pos hx] at this
      rw [encN_snoc _ hx, hw, hlen]
      simpa using this
    · rw [low_encN, low_encI']; rfl
    · have hx : ¬ 0 < x := by simpa using b
      rw [if_neg hx] at this
      rw [hw]
      simpa using this
theorem c29 : COk cfg 29 encC := by
  refine cok_pure pf29 fun vs h K ht => ?_
  obtain ⟨s, l, sz, hs, hl, hn, hz, rfl, hk⟩ := ht
  refine ⟨_, hk, t29a tab29 ?_⟩
  have := loop29b hs l [] hl hz hn
  rw [List.nil_append] at this
  exact this
end Go.Proofs.YtnncfdlpogjlkaaDoor
end
