/-
  Runs of functions of bodies in chunks, printed by a home tool; each is the kernel's word.
  Sizes of chunks, where lines end, hexadecimal digits put: the functions keep to their contracts.
  The document's sizes of chunks, where its lines end, its digits: the functions keep to their contracts.
-/
import Derived.Test.YtnncfdlpogjlkaaDoorCfg
import Derived.Test.YtnncfdlpogjlkaaDoorJCa
import Derived.Test.YtnncfdlpogjlkaaDoorJCb
section
namespace Go.Proofs.YtnncfdlpogjlkaaDoor
open Go.Ai Go
set_option maxRecDepth 100000
set_option linter.unusedVariables false
theorem t88a {v : AV} {s : List UInt8} (hT : TabOk cfg (ctab [(110, lowerBC)])) (H :
    ifP (s == []) False (gAnd (Nat.ble (List.length s) 140737488355328) (ToEnd cfg 88 (bodyOf Tryd.f88) (RetIs Tryd.prog Tryd.f88 v) [Fm.code [0, 1, 0, 1, 1, 1, 1, 1, 1, 1, 1, 1, 1, 1], Fm.block 3, Fm.code [1, 1, 1, 1, 1, 1, 1, 1, 1, 1, 1, 1]] XT.normal [(1, true, AV.int IntKind.i64 16), (8, true, AV.bool false), (9, true, AV.str s), (10, true, AV.int IntKind.u64 1152921504606846976), (11, true, AV.int IntKind.u64 18446744073709551615), (12, true, AV.bool false), (13, true, AV.int IntKind.u64 0), (99, true, AV.osl 0 0 (List.length s) 1), (100, true, AV.int IntKind.i64 (↑(List.length s) : Int)), (101, true, AV.int IntKind.i64 0)] [Blk.mem 5 (List.map (fun (b : UInt8) ↦ AV.int IntKind.u8 (↑(UInt8.toNat b) : Int)) s)]))) :
    ToEnd cfg 88 (bodyOf Tryd.f88) (RetIs Tryd.prog Tryd.f88 v) ([.code []]) .normal ([(0, true, .str s), (1, true, .int .i64 16), (2, true, .int .i64 64)]) ([]) := by
  have e : unr cfg 88 (bodyOf Tryd.f88) (ctab [(110, lowerBC)]) ⟨[[0, 1, 0, 1, 1, 1, 1, 1, 1, 1, 1, 1, 1, 1]], []⟩ (RetIs Tryd.prog Tryd.f88 v) 100000 ([.code []]) .normal ([(0, true, .str s), (1, true, .int .i64 16), (2, true, .int .i64 64)]) ([]) =
    (ifP (s == []) False (gAnd (Nat.ble (List.length s) 140737488355328) (ToEnd cfg 88 (bodyOf Tryd.f88) (RetIs Tryd.prog Tryd.f88 v) [Fm.code [0, 1, 0, 1, 1, 1, 1, 1, 1, 1, 1, 1, 1, 1], Fm.block 3, Fm.code [1, 1, 1, 1, 1, 1, 1, 1, 1, 1, 1, 1]] XT.normal [(1, true, AV.int IntKind.i64 16), (8, true, AV.bool false), (9, true, AV.str s), (10, true, AV.int IntKind.u64 1152921504606846976), (11, true, AV.int IntKind.u64 18446744073709551615), (12, true, AV.bool false), (13, true, AV.int IntKind.u64 0), (99, true, AV.osl 0 0 (List.length s) 1), (100, true, AV.int IntKind.i64 (↑(List.length s) : Int)), (101, true, AV.int IntKind.i64 0)] [Blk.mem 5 (List.map (fun (b : UInt8) ↦ AV.int IntKind.u8 (↑(UInt8.toNat b) : Int)) s)]))) := by kernel_rfl
  exact unr_ok hT 100000 _ _ _ _ (e.mpr H)

theorem t88b {v : AV} {s : List UInt8} {N : Nat} {n i len : Int} {cs : List AV} (hT : TabOk cfg (ctab [(110, lowerBC)])) (H :
    ifP (decide (i < len))
  (gAnd (inR i N && true && true)
    (∃ (z1 : Int),
      List.take 1 (List.drop (0 + Int.toNat i * 1) cs) = [AV.int IntKind.u8 z1] ∧
        ifP (z1 == 95)
          (ifP (decide (48 ≤ z1)) (ifP (decide (z1 ≤ 57)) (ifP (decide (IntKind.wrap IntKind.u8 (z1 - 48) ≥ 16)) False (ifP (decide (n ≥ 1152921504606846976)) False (ifP (decide (IntKind.wrap IntKind.u64 (IntKind.wrap IntKind.u64 (n * 16) + IntKind.wrap IntKind.u64 (IntKind.wrap IntKind.u8 (z1 - 48))) < IntKind.wrap IntKind.u64 (n * 16))) False (ifP (decide (IntKind.wrap IntKind.u64 (IntKind.wrap IntKind.u64 (n * 16) + IntKind.wrap IntKind.u64 (IntKind.wrap IntKind.u8 (z1 - 48))) > 18446744073709551615)) False (ToEnd cfg 88 (bodyOf Tryd.f88) (RetIs Tryd.prog Tryd.f88 v) [Fm.code [0, 1, 0, 1, 1, 1, 1, 1, 1, 1, 1, 1, 1, 1], Fm.block 3, Fm.code [1, 1, 1, 1, 1, 1, 1, 1, 1, 1, 1, 1]] XT.normal [(1, true, AV.int IntKind.i64 16), (8, true, AV.bool false), (9, true, AV.str s), (10, true, AV.int IntKind.u64 1152921504606846976), (11, true, AV.int IntKind.u64 18446744073709551615), (12, true, AV.bool false), (13, true, AV.int IntKind.u64 (IntKind.wrap IntKind.u64 (IntKind.wrap IntKind.u64 (n * 16) + IntKind.wrap IntKind.u64 (IntKind.wrap IntKind.u8 (z1 - 48))))), (99, true, AV.osl 0 0 N 1), (100, true, AV.int IntKind.i64 len), (101, true, AV.int IntKind.i64 (IntKind.wrap IntKind.i64 (i + 1)))] [Blk.mem 5 cs]))))) (∃ (c2 : UInt8), [AV.int IntKind.u8 z1] = [AV.int IntKind.u8 (↑(UInt8.toNat c2) : Int)] ∧ ifP (decide (97 ≤ (↑(UInt8.toNat (c2 ||| 32)) : Int))) (∃ (c3 : UInt8), [AV.int IntKind.u8 z1] = [AV.int IntKind.u8 (↑(UInt8.toNat c3) : Int)] ∧ ifP (decide ((↑(UInt8.toNat (c3 ||| 32)) : Int) ≤ 122)) (∃ (c4 : UInt8), [AV.int IntKind.u8 z1] = [AV.int IntKind.u8 (↑(UInt8.toNat c4) : Int)] ∧ ifP (decide (IntKind.wrap IntKind.u8 (IntKind.wrap IntKind.u8 ((↑(UInt8.toNat (c4 ||| 32)) : Int) - 97) + 10) ≥ 16)) False (ifP (decide (n ≥ 1152921504606846976)) False (ifP (decide (IntKind.wrap IntKind.u64 (IntKind.wrap IntKind.u64 (n * 16) + IntKind.wrap IntKind.u64 (IntKind.wrap IntKind.u8 (IntKind.wrap IntKind.u8 ((↑(UInt8.toNat (c4 ||| 32)) : Int) - 97) + 10))) < IntKind.wrap IntKind.u64 (n * 16))) False (ifP (decide (IntKind.wrap IntKind.u64 (IntKind.wrap IntKind.u64 (n * 16) + IntKind.wrap IntKind.u64 (IntKind.wrap IntKind.u8 (IntKind.wrap IntKind.u8 ((↑(UInt8.toNat (c4 ||| 32)) : Int) - 97) + 10))) > 18446744073709551615)) False (ToEnd cfg 88 (bodyOf Tryd.f88) (RetIs Tryd.prog Tryd.f88 v) [Fm.code [0, 1, 0, 1, 1, 1, 1, 1, 1, 1, 1, 1, 1, 1], Fm.block 3, Fm.code [1, 1, 1, 1, 1, 1, 1, 1, 1, 1, 1, 1]] XT.normal [(1, true, AV.int IntKind.i64 16), (8, true, AV.bool false), (9, true, AV.str s), (10, true, AV.int IntKind.u64 1152921504606846976), (11, true, AV.int IntKind.u64 18446744073709551615), (12, true, AV.bool false), (13, true, AV.int IntKind.u64 (IntKind.wrap IntKind.u64 (IntKind.wrap IntKind.u64 (n * 16) + IntKind.wrap IntKind.u64 (IntKind.wrap IntKind.u8 (IntKind.wrap IntKind.u8 ((↑(UInt8.toNat (c4 ||| 32)) : Int) - 97) + 10))))), (99, true, AV.osl 0 0 N 1), (100, true, AV.int IntKind.i64 len), (101, true, AV.int IntKind.i64 (IntKind.wrap IntKind.i64 (i + 1)))] [Blk.mem 5 cs]))))) False) False))
            (∃ (c5 : UInt8), [AV.int IntKind.u8 z1] = [AV.int IntKind.u8 (↑(UInt8.toNat c5) : Int)] ∧ ifP (decide (97 ≤ (↑(UInt8.toNat (c5 ||| 32)) : Int))) (∃ (c6 : UInt8), [AV.int IntKind.u8 z1] = [AV.int IntKind.u8 (↑(UInt8.toNat c6) : Int)] ∧ ifP (decide ((↑(UInt8.toNat (c6 ||| 32)) : Int) ≤ 122)) (∃ (c7 : UInt8), [AV.int IntKind.u8 z1] = [AV.int IntKind.u8 (↑(UInt8.toNat c7) : Int)] ∧ ifP (decide (IntKind.wrap IntKind.u8 (IntKind.wrap IntKind.u8 ((↑(UInt8.toNat (c7 ||| 32)) : Int) - 97) + 10) ≥ 16)) False (ifP (decide (n ≥ 1152921504606846976)) False (ifP (decide (IntKind.wrap IntKind.u64 (IntKind.wrap IntKind.u64 (n * 16) + IntKind.wrap IntKind.u64 (IntKind.wrap IntKind.u8 (IntKind.wrap IntKind.u8 ((↑(UInt8.toNat (c7 ||| 32)) : Int) - 97) + 10))) < IntKind.wrap IntKind.u64 (n * 16))) False (ifP (decide (IntKind.wrap IntKind.u64 (IntKind.wrap IntKind.u64 (n * 16) + IntKind.wrap IntKind.u64 (IntKind.wrap IntKind.u8 (IntKind.wrap IntKind.u8 ((↑(UInt8.toNat (c7 ||| 32)) : Int) - 97) + 10))) > 18446744073709551615)) False (ToEnd cfg 88 (bodyOf Tryd.f88) (RetIs Tryd.prog Tryd.f88 v) [Fm.code [0, 1, 0, 1, 1, 1, 1, 1, 1, 1, 1, 1, 1, 1], Fm.block 3, Fm.code [1, 1, 1, 1, 1, 1, 1, 1, 1, 1, 1, 1]] XT.normal [(1, true, AV.int IntKind.i64 16), (8, true, AV.bool false), (9, true, AV.str s), (10, true, AV.int IntKind.u64 1152921504606846976), (11, true, AV.int IntKind.u64 18446744073709551615), (12, true, AV.bool false), (13, true, AV.int IntKind.u64 (IntKind.wrap IntKind.u64 (IntKind.wrap IntKind.u64 (n * 16) + IntKind.wrap IntKind.u64 (IntKind.wrap IntKind.u8 (IntKind.wrap IntKind.u8 ((↑(UInt8.toNat (c7 ||| 32)) : Int) - 97) + 10))))), (99, true, AV.osl 0 0 N 1), (100, true, AV.int IntKind.i64 len), (101, true, AV.int IntKind.i64 (IntKind.wrap IntKind.i64 (i + 1)))] [Blk.mem 5 cs]))))) False) False))
          (ifP (decide (48 ≤ z1)) (ifP (decide (z1 ≤ 57)) (ifP (decide (IntKind.wrap IntKind.u8 (z1 - 48) ≥ 16)) False (ifP (decide (n ≥ 1152921504606846976)) False (ifP (decide (IntKind.wrap IntKind.u64 (IntKind.wrap IntKind.u64 (n * 16) + IntKind.wrap IntKind.u64 (IntKind.wrap IntKind.u8 (z1 - 48))) < IntKind.wrap IntKind.u64 (n * 16))) False (ifP (decide (IntKind.wrap IntKind.u64 (IntKind.wrap IntKind.u64 (n * 16) + IntKind.wrap IntKind.u64 (IntKind.wrap IntKind.u8 (z1 - 48))) > 18446744073709551615)) False (ToEnd cfg 88 (bodyOf Tryd.f88) (RetIs Tryd.prog Tryd.f88 v) [Fm.code [0, 1, 0, 1, 1, 1, 1, 1, 1, 1, 1, 1, 1, 1], Fm.block 3, Fm.code [1, 1, 1, 1, 1, 1, 1, 1, 1, 1, 1, 1]] XT.normal [(1, true, AV.int IntKind.i64 16), (8, true, AV.bool false), (9, true, AV.str s), (10, true, AV.int IntKind.u64 1152921504606846976), (11, true, AV.int IntKind.u64 18446744073709551615), (12, true, AV.bool false), (13, true, AV.int IntKind.u64 (IntKind.wrap IntKind.u64 (IntKind.wrap IntKind.u64 (n * 16) + IntKind.wrap IntKind.u64 (IntKind.wrap IntKind.u8 (z1 - 48))))), (99, true, AV.osl 0 0 N 1), (100, true, AV.int IntKind.i64 len), (101, true, AV.int IntKind.i64 (IntKind.wrap IntKind.i64 (i + 1)))] [Blk.mem 5 cs]))))) (∃ (c8 : UInt8), [AV.int IntKind.u8 z1] = [AV.int IntKind.u8 (↑(UInt8.toNat c8) : Int)] ∧ ifP (decide (97 ≤ (↑(UInt8.toNat (c8 ||| 32)) : Int))) (∃ (c9 : UInt8), [AV.int IntKind.u8 z1] = [AV.int IntKind.u8 (↑(UInt8.toNat c9) : Int)] ∧ ifP (decide ((↑(UInt8.toNat (c9 ||| 32)) : Int) ≤ 122)) (∃ (c10 : UInt8), [AV.int IntKind.u8 z1] = [AV.int IntKind.u8 (↑(UInt8.toNat c10) : Int)] ∧ ifP (decide (IntKind.wrap IntKind.u8 (IntKind.wrap IntKind.u8 ((↑(UInt8.toNat (c10 ||| 32)) : Int) - 97) + 10) ≥ 16)) False (ifP (decide (n ≥ 1152921504606846976)) False (ifP (decide (IntKind.wrap IntKind.u64 (IntKind.wrap IntKind.u64 (n * 16) + IntKind.wrap IntKind.u64 (IntKind.wrap IntKind.u8 (IntKind.wrap IntKind.u8 ((↑(UInt8.toNat (c10 ||| 32)) : Int) - 97) + 10))) < IntKind.wrap IntKind.u64 (n * 16))) False (ifP (decide (IntKind.wrap IntKind.u64 (IntKind.wrap IntKind.u64 (n * 16) + IntKind.wrap IntKind.u64 (IntKind.wrap IntKind.u8 (IntKind.wrap IntKind.u8 ((↑(UInt8.toNat (c10 ||| 32)) : Int) - 97) + 10))) > 18446744073709551615)) False (ToEnd cfg 88 (bodyOf Tryd.f88) (RetIs Tryd.prog Tryd.f88 v) [Fm.code [0, 1, 0, 1, 1, 1, 1, 1, 1, 1, 1, 1, 1, 1], Fm.block 3, Fm.code [1, 1, 1, 1, 1, 1, 1, 1, 1, 1, 1, 1]] XT.normal [(1, true, AV.int IntKind.i64 16), (8, true, AV.bool false), (9, true, AV.str s), (10, true, AV.int IntKind.u64 1152921504606846976), (11, true, AV.int IntKind.u64 18446744073709551615), (12, true, AV.bool false), (13, true, AV.int IntKind.u64 (IntKind.wrap IntKind.u64 (IntKind.wrap IntKind.u64 (n * 16) + IntKind.wrap IntKind.u64 (IntKind.wrap IntKind.u8 (IntKind.wrap IntKind.u8 ((↑(UInt8.toNat (c10 ||| 32)) : Int) - 97) + 10))))), (99, true, AV.osl 0 0 N 1), (100, true, AV.int IntKind.i64 len), (101, true, AV.int IntKind.i64 (IntKind.wrap IntKind.i64 (i + 1)))] [Blk.mem 5 cs]))))) False) False))
            (∃ (c11 : UInt8), [AV.int IntKind.u8 z1] = [AV.int IntKind.u8 (↑(UInt8.toNat c11) : Int)] ∧ ifP (decide (97 ≤ (↑(UInt8.toNat (c11 ||| 32)) : Int))) (∃ (c12 : UInt8), [AV.int IntKind.u8 z1] = [AV.int IntKind.u8 (↑(UInt8.toNat c12) : Int)] ∧ ifP (decide ((↑(UInt8.toNat (c12 ||| 32)) : Int) ≤ 122)) (∃ (c13 : UInt8), [AV.int IntKind.u8 z1] = [AV.int IntKind.u8 (↑(UInt8.toNat c13) : Int)] ∧ ifP (decide (IntKind.wrap IntKind.u8 (IntKind.wrap IntKind.u8 ((↑(UInt8.toNat (c13 ||| 32)) : Int) - 97) + 10) ≥ 16)) False (ifP (decide (n ≥ 1152921504606846976)) False (ifP (decide (IntKind.wrap IntKind.u64 (IntKind.wrap IntKind.u64 (n * 16) + IntKind.wrap IntKind.u64 (IntKind.wrap IntKind.u8 (IntKind.wrap IntKind.u8 ((↑(UInt8.toNat (c13 ||| 32)) : Int) - 97) + 10))) < IntKind.wrap IntKind.u64 (n * 16))) False (ifP (decide (IntKind.wrap IntKind.u64 (IntKind.wrap IntKind.u64 (n * 16) + IntKind.wrap IntKind.u64 (IntKind.wrap IntKind.u8 (IntKind.wrap IntKind.u8 ((↑(UInt8.toNat (c13 ||| 32)) : Int) - 97) + 10))) > 18446744073709551615)) False (ToEnd cfg 88 (bodyOf Tryd.f88) (RetIs Tryd.prog Tryd.f88 v) [Fm.code [0, 1, 0, 1, 1, 1, 1, 1, 1, 1, 1, 1, 1, 1], Fm.block 3, Fm.code [1, 1, 1, 1, 1, 1, 1, 1, 1, 1, 1, 1]] XT.normal [(1, true, AV.int IntKind.i64 16), (8, true, AV.bool false), (9, true, AV.str s), (10, true, AV.int IntKind.u64 1152921504606846976), (11, true, AV.int IntKind.u64 18446744073709551615), (12, true, AV.bool false), (13, true, AV.int IntKind.u64 (IntKind.wrap IntKind.u64 (IntKind.wrap IntKind.u64 (n * 16) + IntKind.wrap IntKind.u64 (IntKind.wrap IntKind.u8 (IntKind.wrap IntKind.u8 ((↑(UInt8.toNat (c13 ||| 32)) : Int) - 97) + 10))))), (99, true, AV.osl 0 0 N 1), (100, true, AV.int IntKind.i64 len), (101, true, AV.int IntKind.i64 (IntKind.wrap IntKind.i64 (i + 1)))] [Blk.mem 5 cs]))))) False) False))))
  (AV.tup [AV.int IntKind.u64 n, AV.nili] = v)) :
    ToEnd cfg 88 (bodyOf Tryd.f88) (RetIs Tryd.prog Tryd.f88 v) ([.code [0, 1, 0, 1, 1, 1, 1, 1, 1, 1, 1, 1, 1, 1], .block 3, .code [1, 1, 1, 1, 1, 1, 1, 1, 1, 1, 1, 1]]) .normal ([(1, true, .int .i64 16), (8, true, .bool false), (9, true, .str s), (10, true, .int .u64 1152921504606846976), (11, true, .int .u64 18446744073709551615), (12, true, .bool false), (13, true, .int .u64 n), (99, true, .osl 0 0 N 1), (100, true, .int .i64 len), (101, true, .int .i64 i)]) ([.mem 5 cs]) := by
  have e : unr cfg 88 (bodyOf Tryd.f88) (ctab [(110, lowerBC)]) ⟨[[0, 1, 0, 1, 1, 1, 1, 1, 1, 1, 1, 1, 1, 1]], [([0, 0, 0, 1, 1, 0, 0, 1, 0, 1, 1, 1, 1, 1, 1, 1, 1, 1, 1, 1], 1, [.int .u8])]⟩ (RetIs Tryd.prog Tryd.f88 v) 100000 ([.code [0, 0, 1, 0, 1, 1, 1, 1, 1, 1, 1, 1, 1, 1, 1], .loop [0, 1, 0, 1, 1, 1, 1, 1, 1, 1, 1, 1, 1, 1] 1, .block 3, .code [1, 1, 1, 1, 1, 1, 1, 1, 1, 1, 1, 1]]) .normal ([(1, true, .int .i64 16), (8, true, .bool false), (9, true, .str s), (10, true, .int .u64 1152921504606846976), (11, true, .int .u64 18446744073709551615), (12, true, .bool false), (13, true, .int .u64 n), (99, true, .osl 0 0 N 1), (100, true, .int .i64 len), (101, true, .int .i64 i)]) ([.mem 5 cs]) =
    (ifP (decide (i < len))
  (gAnd (inR i N && true && true)
    (∃ (z1 : Int),
      List.take 1 (List.drop (0 + Int.toNat i * 1) cs) = [AV.int IntKind.u8 z1] ∧
        ifP (z1 == 95)
          (ifP (decide (48 ≤ z1)) (ifP (decide (z1 ≤ 57)) (ifP (decide (IntKind.wrap IntKind.u8 (z1 - 48) ≥ 16)) False (ifP (decide (n ≥ 1152921504606846976)) False (ifP (decide (IntKind.wrap IntKind.u64 (IntKind.wrap IntKind.u64 (n * 16) + IntKind.wrap IntKind.u64 (IntKind.wrap IntKind.u8 (z1 - 48))) < IntKind.wrap IntKind.u64 (n * 16))) False (ifP (decide (IntKind.wrap IntKind.u64 (IntKind.wrap IntKind.u64 (n * 16) + IntKind.wrap IntKind.u64 (IntKind.wrap IntKind.u8 (z1 - 48))) > 18446744073709551615)) False (ToEnd cfg 88 (bodyOf Tryd.f88) (RetIs Tryd.prog Tryd.f88 v) [Fm.code [0, 1, 0, 1, 1, 1, 1, 1, 1, 1, 1, 1, 1, 1], Fm.block 3, Fm.code [1, 1, 1, 1, 1, 1, 1, 1, 1, 1, 1, 1]] XT.normal [(1, true, AV.int IntKind.i64 16), (8, true, AV.bool false), (9, true, AV.str s), (10, true, AV.int IntKind.u64 1152921504606846976), (11, true, AV.int IntKind.u64 18446744073709551615), (12, true, AV.bool false), (13, true, AV.int IntKind.u64 (IntKind.wrap IntKind.u64 (IntKind.wrap IntKind.u64 (n * 16) + IntKind.wrap IntKind.u64 (IntKind.wrap IntKind.u8 (z1 - 48))))), (99, true, AV.osl 0 0 N 1), (100, true, AV.int IntKind.i64 len), (101, true, AV.int IntKind.i64 (IntKind.wrap IntKind.i64 (i + 1)))] [Blk.mem 5 cs]))))) (∃ (c2 : UInt8), [AV.int IntKind.u8 z1] = [AV.int IntKind.u8 (↑(UInt8.toNat c2) : Int)] ∧ ifP (decide (97 ≤ (↑(UInt8.toNat (c2 ||| 32)) : Int))) (∃ (c3 : UInt8), [AV.int IntKind.u8 z1] = [AV.int IntKind.u8 (↑(UInt8.toNat c3) : Int)] ∧ ifP (decide ((↑(UInt8.toNat (c3 ||| 32)) : Int) ≤ 122)) (∃ (c4 : UInt8), [AV.int IntKind.u8 z1] = [AV.int IntKind.u8 (↑(UInt8.toNat c4) : Int)] ∧ ifP (decide (IntKind.wrap IntKind.u8 (IntKind.wrap IntKind.u8 ((↑(UInt8.toNat (c4 ||| 32)) : Int) - 97) + 10) ≥ 16)) False (ifP (decide (n ≥ 1152921504606846976)) False (ifP (decide (IntKind.wrap IntKind.u64 (IntKind.wrap IntKind.u64 (n * 16) + IntKind.wrap IntKind.u64 (IntKind.wrap IntKind.u8 (IntKind.wrap IntKind.u8 ((↑(UInt8.toNat (c4 ||| 32)) : Int) - 97) + 10))) < IntKind.wrap IntKind.u64 (n * 16))) False (ifP (decide (IntKind.wrap IntKind.u64 (IntKind.wrap IntKind.u64 (n * 16) + IntKind.wrap IntKind.u64 (IntKind.wrap IntKind.u8 (IntKind.wrap IntKind.u8 ((↑(UInt8.toNat (c4 ||| 32)) : Int) - 97) + 10))) > 18446744073709551615)) False (ToEnd cfg 88 (bodyOf Tryd.f88) (RetIs Tryd.prog Tryd.f88 v) [Fm.code [0, 1, 0, 1, 1, 1, 1, 1, 1, 1, 1, 1, 1, 1], Fm.block 3, Fm.code [1, 1, 1, 1, 1, 1, 1, 1, 1, 1, 1, 1]] XT.normal [(1, true, AV.int IntKind.i64 16), (8, true, AV.bool false), (9, true, AV.str s), (10, true, AV.int IntKind.u64 1152921504606846976), (11, true, AV.int IntKind.u64 18446744073709551615), (12, true, AV.bool false), (13, true, AV.int IntKind.u64 (IntKind.wrap IntKind.u64 (IntKind.wrap IntKind.u64 (n * 16) + IntKind.wrap IntKind.u64 (IntKind.wrap IntKind.u8 (IntKind.wrap IntKind.u8 ((↑(UInt8.toNat (c4 ||| 32)) : Int) - 97) + 10))))), (99, true, AV.osl 0 0 N 1), (100, true, AV.int IntKind.i64 len), (101, true, AV.int IntKind.i64 (IntKind.wrap IntKind.i64 (i + 1)))] [Blk.mem 5 cs]))))) False) False))
            (∃ (c5 : UInt8), [AV.int IntKind.u8 z1] = [AV.int IntKind.u8 (↑(UInt8.toNat c5) : Int)] ∧ ifP (decide (97 ≤ (↑(UInt8.toNat (c5 ||| 32)) : Int))) (∃ (c6 : UInt8), [AV.int IntKind.u8 z1] = [AV.int IntKind.u8 (↑(UInt8.toNat c6) : Int)] ∧ ifP (decide ((↑(UInt8.toNat (c6 ||| 32)) : Int) ≤ 122)) (∃ (c7 : UInt8), [AV.int IntKind.u8 z1] = [AV.int IntKind.u8 (↑(UInt8.toNat c7) : Int)] ∧ ifP (decide (IntKind.wrap IntKind.u8 (IntKind.wrap IntKind.u8 ((↑(UInt8.toNat (c7 ||| 32)) : Int) - 97) + 10) ≥ 16)) False (ifP (decide (n ≥ 1152921504606846976)) False (ifP (decide (IntKind.wrap IntKind.u64 (IntKind.wrap IntKind.u64 (n * 16) + IntKind.wrap IntKind.u64 (IntKind.wrap IntKind.u8 (IntKind.wrap IntKind.u8 ((↑(UInt8.toNat (c7 ||| 32)) : Int) - 97) + 10))) < IntKind.wrap IntKind.u64 (n * 16))) False (ifP (decide (IntKind.wrap IntKind.u64 (IntKind.wrap IntKind.u64 (n * 16) + IntKind.wrap IntKind.u64 (IntKind.wrap IntKind.u8 (IntKind.wrap IntKind.u8 ((↑(UInt8.toNat (c7 ||| 32)) : Int) - 97) + 10))) > 18446744073709551615)) False (ToEnd cfg 88 (bodyOf Tryd.f88) (RetIs Tryd.prog Tryd.f88 v) [Fm.code [0, 1, 0, 1, 1, 1, 1, 1, 1, 1, 1, 1, 1, 1], Fm.block 3, Fm.code [1, 1, 1, 1, 1, 1, 1, 1, 1, 1, 1, 1]] XT.normal [(1, true, AV.int IntKind.i64 16), (8, true, AV.bool false), (9, true, AV.str s), (10, true, AV.int IntKind.u64 1152921504606846976), (11, true, AV.int IntKind.u64 18446744073709551615), (12, true, AV.bool false), (13, true, AV.int IntKind.u64 (IntKind.wrap IntKind.u64 (IntKind.wrap IntKind.u64 (n * 16) + IntKind.wrap IntKind.u64 (IntKind.wrap IntKind.u8 (IntKind.wrap IntKind.u8 ((↑(UInt8.toNat (c7 ||| 32)) : Int) - 97) + 10))))), (99, true, AV.osl 0 0 N 1), (100, true, AV.int IntKind.i64 len), (101, true, AV.int IntKind.i64 (IntKind.wrap IntKind.i64 (i + 1)))] [Blk.mem 5 cs]))))) False) False))
          (ifP (decide (48 ≤ z1)) (ifP (decide (z1 ≤ 57)) (ifP (decide (IntKind.wrap IntKind.u8 (z1 - 48) ≥ 16)) False (ifP (decide (n ≥ 1152921504606846976)) False (ifP (decide (IntKind.wrap IntKind.u64 (IntKind.wrap IntKind.u64 (n * 16) + IntKind.wrap IntKind.u64 (IntKind.wrap IntKind.u8 (z1 - 48))) < IntKind.wrap IntKind.u64 (n * 16))) False (ifP (decide (IntKind.wrap IntKind.u64 (IntKind.wrap IntKind.u64 (n * 16) + IntKind.wrap IntKind.u64 (IntKind.wrap IntKind.u8 (z1 - 48))) > 18446744073709551615)) False (ToEnd cfg 88 (bodyOf Tryd.f88) (RetIs Tryd.prog Tryd.f88 v) [Fm.code [0, 1, 0, 1, 1, 1, 1, 1, 1, 1, 1, 1, 1, 1], Fm.block 3, Fm.code [1, 1, 1, 1, 1, 1, 1, 1, 1, 1, 1, 1]] XT.normal [(1, true, AV.int IntKind.i64 16), (8, true, AV.bool false), (9, true, AV.str s), (10, true, AV.int IntKind.u64 1152921504606846976), (11, true, AV.int IntKind.u64 18446744073709551615), (12, true, AV.bool false), (13, true, AV.int IntKind.u64 (IntKind.wrap IntKind.u64 (IntKind.wrap IntKind.u64 (n * 16) + IntKind.wrap IntKind.u64 (IntKind.wrap IntKind.u8 (z1 - 48))))), (99, true, AV.osl 0 0 N 1), (100, true, AV.int IntKind.i64 len), (101, true, AV.int IntKind.i64 (IntKind.wrap IntKind.i64 (i + 1)))] [Blk.mem 5 cs]))))) (∃ (c8 : UInt8), [AV.int IntKind.u8 z1] = [AV.int IntKind.u8 (↑(UInt8.toNat c8) : Int)] ∧ ifP (decide (97 ≤ (↑(UInt8.toNat (c8 ||| 32)) : Int))) (∃ (c9 : UInt8), [AV.int IntKind.u8 z1] = [AV.int IntKind.u8 (↑(UInt8.toNat c9) : Int)] ∧ ifP (decide ((↑(UInt8.toNat (c9 ||| 32)) : Int) ≤ 122)) (∃ (c10 : UInt8), [AV.int IntKind.u8 z1] = [AV.int IntKind.u8 (↑(UInt8.toNat c10) : Int)] ∧ ifP (decide (IntKind.wrap IntKind.u8 (IntKind.wrap IntKind.u8 ((↑(UInt8.toNat (c10 ||| 32)) : Int) - 97) + 10) ≥ 16)) False (ifP (decide (n ≥ 1152921504606846976)) False (ifP (decide (IntKind.wrap IntKind.u64 (IntKind.wrap IntKind.u64 (n * 16) + IntKind.wrap IntKind.u64 (IntKind.wrap IntKind.u8 (IntKind.wrap IntKind.u8 ((↑(UInt8.toNat (c10 ||| 32)) : Int) - 97) + 10))) < IntKind.wrap IntKind.u64 (n * 16))) False (ifP (decide (IntKind.wrap IntKind.u64 (IntKind.wrap IntKind.u64 (n * 16) + IntKind.wrap IntKind.u64 (IntKind.wrap IntKind.u8 (IntKind.wrap IntKind.u8 ((↑(UInt8.toNat (c10 ||| 32)) : Int) - 97) + 10))) > 18446744073709551615)) False (ToEnd cfg 88 (bodyOf Tryd.f88) (RetIs Tryd.prog Tryd.f88 v) [Fm.code [0, 1, 0, 1, 1, 1, 1, 1, 1, 1, 1, 1, 1, 1], Fm.block 3, Fm.code [1, 1, 1, 1, 1, 1, 1, 1, 1, 1, 1, 1]] XT.normal [(1, true, AV.int IntKind.i64 16), (8, true, AV.bool false), (9, true, AV.str s), (10, true, AV.int IntKind.u64 1152921504606846976), (11, true, AV.int IntKind.u64 18446744073709551615), (12, true, AV.bool false), (13, true, AV.int IntKind.u64 (IntKind.wrap IntKind.u64 (IntKind.wrap IntKind.u64 (n * 16) + IntKind.wrap IntKind.u64 (IntKind.wrap IntKind.u8 (IntKind.wrap IntKind.u8 ((↑(UInt8.toNat (c10 ||| 32)) : Int) - 97) + 10))))), (99, true, AV.osl 0 0 N 1), (100, true, AV.int IntKind.i64 len), (101, true, AV.int IntKind.i64 (IntKind.wrap IntKind.i64 (i + 1)))] [Blk.mem 5 cs]))))) False) False))
            (∃ (c11 : UInt8), [AV.int IntKind.u8 z1] = [AV.int IntKind.u8 (↑(UInt8.toNat c11) : Int)] ∧ ifP (decide (97 ≤ (↑(UInt8.toNat (c11 ||| 32)) : Int))) (∃ (c12 : UInt8), [AV.int IntKind.u8 z1] = [AV.int IntKind.u8 (↑(UInt8.toNat c12) : Int)] ∧ ifP (decide ((↑(UInt8.toNat (c12 ||| 32)) : Int) ≤ 122)) (∃ (c13 : UInt8), [AV.int IntKind.u8 z1] = [AV.int IntKind.u8 (↑(UInt8.toNat c13) : Int)] ∧ ifP (decide (IntKind.wrap IntKind.u8 (IntKind.wrap IntKind.u8 ((↑(UInt8.toNat (c13 ||| 32)) : Int) - 97) + 10) ≥ 16)) False (ifP (decide (n ≥ 1152921504606846976)) False (ifP (decide (IntKind.wrap IntKind.u64 (IntKind.wrap IntKind.u64 (n * 16) + IntKind.wrap IntKind.u64 (IntKind.wrap IntKind.u8 (IntKind.wrap IntKind.u8 ((↑(UInt8.toNat (c13 ||| 32)) : Int) - 97) + 10))) < IntKind.wrap IntKind.u64 (n * 16))) False (ifP (decide (IntKind.wrap IntKind.u64 (IntKind.wrap IntKind.u64 (n * 16) + IntKind.wrap IntKind.u64 (IntKind.wrap IntKind.u8 (IntKind.wrap IntKind.u8 ((↑(UInt8.toNat (c13 ||| 32)) : Int) - 97) + 10))) > 18446744073709551615)) False (ToEnd cfg 88 (bodyOf Tryd.f88) (RetIs Tryd.prog Tryd.f88 v) [Fm.code [0, 1, 0, 1, 1, 1, 1, 1, 1, 1, 1, 1, 1, 1], Fm.block 3, Fm.code [1, 1, 1, 1, 1, 1, 1, 1, 1, 1, 1, 1]] XT.normal [(1, true, AV.int IntKind.i64 16), (8, true, AV.bool false), (9, true, AV.str s), (10, true, AV.int IntKind.u64 1152921504606846976), (11, true, AV.int IntKind.u64 18446744073709551615), (12, true, AV.bool false), (13, true, AV.int IntKind.u64 (IntKind.wrap IntKind.u64 (IntKind.wrap IntKind.u64 (n * 16) + IntKind.wrap IntKind.u64 (IntKind.wrap IntKind.u8 (IntKind.wrap IntKind.u8 ((↑(UInt8.toNat (c13 ||| 32)) : Int) - 97) + 10))))), (99, true, AV.osl 0 0 N 1), (100, true, AV.int IntKind.i64 len), (101, true, AV.int IntKind.i64 (IntKind.wrap IntKind.i64 (i + 1)))] [Blk.mem 5 cs]))))) False) False))))
  (AV.tup [AV.int IntKind.u64 n, AV.nili] = v)) := by kernel_rfl
  exact ends_round hT 100000 (by kernel_rfl) (e.mpr H)

theorem t67 {v : AV} {s : List UInt8} (hT : TabOk cfg (ctab [(88, puC)])) (H :
    ∃ (s1 : List UInt8), (s1 ≠ [] ∧ List.length s1 ≤ 8 ∧ List.all s1 hexB = true) ∧ [AV.str s, AV.int IntKind.i64 16, AV.int IntKind.i64 64] = [AV.str s1, AV.int IntKind.i64 16, AV.int IntKind.i64 64] ∧ AV.tup [AV.int IntKind.u64 (↑(hexV 0 s1) : Int), AV.nili] = v) :
    ToEnd cfg 67 (bodyOf Tryd.f67) (RetIs Tryd.prog Tryd.f67 v) ([.code []]) .normal ([(0, true, .str s), (1, true, .int .i64 16), (2, true, .int .i64 64)]) ([]) := by
  have e : unr cfg 67 (bodyOf Tryd.f67) (ctab [(88, puC)]) ⟨[], []⟩ (RetIs Tryd.prog Tryd.f67 v) 100000 ([.code []]) .normal ([(0, true, .str s), (1, true, .int .i64 16), (2, true, .int .i64 64)]) ([]) =
    (∃ (s1 : List UInt8), (s1 ≠ [] ∧ List.length s1 ≤ 8 ∧ List.all s1 hexB = true) ∧ [AV.str s, AV.int IntKind.i64 16, AV.int IntKind.i64 64] = [AV.str s1, AV.int IntKind.i64 16, AV.int IntKind.i64 64] ∧ AV.tup [AV.int IntKind.u64 (↑(hexV 0 s1) : Int), AV.nili] = v) := by kernel_rfl
  exact unr_ok hT 100000 _ _ _ _ (e.mpr H)

theorem t43a {v : AV} {s : List UInt8} (hT : TabOk cfg (ctab [(65, cutGC), (66, trimSC), (67, puC)])) (H :
    ∃ (s1 : List UInt8), ∃ (x2 : List UInt8), List.length s1 ≤ 10000000 ∧ [AV.str s, AV.str [59]] = [AV.str s1, AV.str x2] ∧ ifP (Prod.fst (cutS s1 x2) == []) (AV.tup [AV.int IntKind.i64 0, AV.int IntKind.i64 4] = v) (ifP (decide ((↑(List.length (Prod.fst (cutS s1 x2))) : Int) > 8)) (AV.tup [AV.int IntKind.i64 0, AV.int IntKind.i64 4] = v) (∃ (s3 : List UInt8), ∃ (cs4 : List UInt8), List.length s3 ≤ 10000000 ∧ List.length cs4 ≤ 100 ∧ (List.all cs4 fun (b : UInt8) ↦ Nat.blt (UInt8.toNat b) 128) = true ∧ [AV.str (Prod.fst (cutS s1 x2)), AV.str [48, 49, 50, 51, 52, 53, 54, 55, 56, 57, 97, 98, 99, 100, 101, 102, 65, 66, 67, 68, 69, 70]] = [AV.str s3, AV.str cs4] ∧ ifP (!Lib.trimS s3 cs4 == []) (AV.tup [AV.int IntKind.i64 0, AV.int IntKind.i64 4] = v) (ToEnd cfg 43 (bodyOf Tryd.f43) (RetIs Tryd.prog Tryd.f43 v) [Fm.code [0, 1, 0, 1, 1, 1], Fm.block 0, Fm.code [1, 1, 1, 1]] XT.normal [(4, true, AV.str (Prod.fst (cutS s1 x2))), (5, true, AV.str (Prod.fst (Prod.snd (cutS s1 x2)))), (30, true, AV.int IntKind.i64 (↑(List.length (Prod.fst (Prod.snd (cutS s1 x2)))) : Int)), (31, true, AV.int IntKind.i64 0)] [])))) :
    ToEnd cfg 43 (bodyOf Tryd.f43) (RetIs Tryd.prog Tryd.f43 v) ([.code []]) .normal ([(0, true, .str s)]) ([]) := by
  have e : unr cfg 43 (bodyOf Tryd.f43) (ctab [(65, cutGC), (66, trimSC), (67, puC)]) ⟨[[0, 1, 0, 1, 1, 1]], []⟩ (RetIs Tryd.prog Tryd.f43 v) 100000 ([.code []]) .normal ([(0, true, .str s)]) ([]) =
    (∃ (s1 : List UInt8), ∃ (x2 : List UInt8), List.length s1 ≤ 10000000 ∧ [AV.str s, AV.str [59]] = [AV.str s1, AV.str x2] ∧ ifP (Prod.fst (cutS s1 x2) == []) (AV.tup [AV.int IntKind.i64 0, AV.int IntKind.i64 4] = v) (ifP (decide ((↑(List.length (Prod.fst (cutS s1 x2))) : Int) > 8)) (AV.tup [AV.int IntKind.i64 0, AV.int IntKind.i64 4] = v) (∃ (s3 : List UInt8), ∃ (cs4 : List UInt8), List.length s3 ≤ 10000000 ∧ List.length cs4 ≤ 100 ∧ (List.all cs4 fun (b : UInt8) ↦ Nat.blt (UInt8.toNat b) 128) = true ∧ [AV.str (Prod.fst (cutS s1 x2)), AV.str [48, 49, 50, 51, 52, 53, 54, 55, 56, 57, 97, 98, 99, 100, 101, 102, 65, 66, 67, 68, 69, 70]] = [AV.str s3, AV.str cs4] ∧ ifP (!Lib.trimS s3 cs4 == []) (AV.tup [AV.int IntKind.i64 0, AV.int IntKind.i64 4] = v) (ToEnd cfg 43 (bodyOf Tryd.f43) (RetIs Tryd.prog Tryd.f43 v) [Fm.code [0, 1, 0, 1, 1, 1], Fm.block 0, Fm.code [1, 1, 1, 1]] XT.normal [(4, true, AV.str (Prod.fst (cutS s1 x2))), (5, true, AV.str (Prod.fst (Prod.snd (cutS s1 x2)))), (30, true, AV.int IntKind.i64 (↑(List.length (Prod.fst (Prod.snd (cutS s1 x2)))) : Int)), (31, true, AV.int IntKind.i64 0)] [])))) := by kernel_rfl
  exact unr_ok hT 100000 _ _ _ _ (e.mpr H)

theorem t43b {v : AV}  {s4 : List UInt8} {s5 : List UInt8} {i30 : Int} {i31 : Int} (hT : TabOk cfg (ctab [(65, cutGC), (66, trimSC), (67, puC)])) (H :
    ifP (decide (i31 < i30)) (gAnd (inR i31 (List.length s5)) (ifP ((↑(UInt8.toNat (List.getD s5 (Int.toNat i31) 0)) : Int) != 9) (ifP (decide ((↑(UInt8.toNat (List.getD s5 (Int.toNat i31) 0)) : Int) < 32)) (AV.tup [AV.int IntKind.i64 0, AV.int IntKind.i64 4] = v) (ifP (decide ((↑(UInt8.toNat (List.getD s5 (Int.toNat i31) 0)) : Int) > 126)) (AV.tup [AV.int IntKind.i64 0, AV.int IntKind.i64 4] = v) (ToEnd cfg 43 (bodyOf Tryd.f43) (RetIs Tryd.prog Tryd.f43 v) [Fm.code [0, 1, 0, 1, 1, 1], Fm.block 0, Fm.code [1, 1, 1, 1]] XT.normal [(4, true, AV.str s4), (5, true, AV.str s5), (30, true, AV.int IntKind.i64 i30), (31, true, AV.int IntKind.i64 (IntKind.wrap IntKind.i64 (i31 + 1)))] []))) (ToEnd cfg 43 (bodyOf Tryd.f43) (RetIs Tryd.prog Tryd.f43 v) [Fm.code [0, 1, 0, 1, 1, 1], Fm.block 0, Fm.code [1, 1, 1, 1]] XT.normal [(4, true, AV.str s4), (5, true, AV.str s5), (30, true, AV.int IntKind.i64 i30), (31, true, AV.int IntKind.i64 (IntKind.wrap IntKind.i64 (i31 + 1)))] []))) (∃ (s1 : List UInt8), (s1 ≠ [] ∧ List.length s1 ≤ 8 ∧ List.all s1 hexB = true) ∧ [AV.str s4, AV.int IntKind.i64 16, AV.int IntKind.i64 64] = [AV.str s1, AV.int IntKind.i64 16, AV.int IntKind.i64 64] ∧ AV.tup [AV.int IntKind.i64 (IntKind.wrap IntKind.i64 (↑(hexV 0 s1) : Int)), AV.int IntKind.i64 0] = v)) :
    ToEnd cfg 43 (bodyOf Tryd.f43) (RetIs Tryd.prog Tryd.f43 v) ([.code [0, 1, 0, 1, 1, 1], Fm.block 0, Fm.code [1, 1, 1, 1]]) .normal ([(4, true, AV.str s4), (5, true, AV.str s5), (30, true, AV.int IntKind.i64 i30), (31, true, AV.int IntKind.i64 i31)]) ([]) := by
  have e : unr cfg 43 (bodyOf Tryd.f43) (ctab [(65, cutGC), (66, trimSC), (67, puC)]) ⟨[[0, 1, 0, 1, 1, 1]], []⟩ (RetIs Tryd.prog Tryd.f43 v) 100000 ([.code [0, 0, 1, 0, 1, 1, 1], .loop [0, 1, 0, 1, 1, 1] 0, Fm.block 0, Fm.code [1, 1, 1, 1]]) .normal ([(4, true, AV.str s4), (5, true, AV.str s5), (30, true, AV.int IntKind.i64 i30), (31, true, AV.int IntKind.i64 i31)]) ([]) =
    (ifP (decide (i31 < i30)) (gAnd (inR i31 (List.length s5)) (ifP ((↑(UInt8.toNat (List.getD s5 (Int.toNat i31) 0)) : Int) != 9) (ifP (decide ((↑(UInt8.toNat (List.getD s5 (Int.toNat i31) 0)) : Int) < 32)) (AV.tup [AV.int IntKind.i64 0, AV.int IntKind.i64 4] = v) (ifP (decide ((↑(UInt8.toNat (List.getD s5 (Int.toNat i31) 0)) : Int) > 126)) (AV.tup [AV.int IntKind.i64 0, AV.int IntKind.i64 4] = v) (ToEnd cfg 43 (bodyOf Tryd.f43) (RetIs Tryd.prog Tryd.f43 v) [Fm.code [0, 1, 0, 1, 1, 1], Fm.block 0, Fm.code [1, 1, 1, 1]] XT.normal [(4, true, AV.str s4), (5, true, AV.str s5), (30, true, AV.int IntKind.i64 i30), (31, true, AV.int IntKind.i64 (IntKind.wrap IntKind.i64 (i31 + 1)))] []))) (ToEnd cfg 43 (bodyOf Tryd.f43) (RetIs Tryd.prog Tryd.f43 v) [Fm.code [0, 1, 0, 1, 1, 1], Fm.block 0, Fm.code [1, 1, 1, 1]] XT.normal [(4, true, AV.str s4), (5, true, AV.str s5), (30, true, AV.int IntKind.i64 i30), (31, true, AV.int IntKind.i64 (IntKind.wrap IntKind.i64 (i31 + 1)))] []))) (∃ (s1 : List UInt8), (s1 ≠ [] ∧ List.length s1 ≤ 8 ∧ List.all s1 hexB = true) ∧ [AV.str s4, AV.int IntKind.i64 16, AV.int IntKind.i64 64] = [AV.str s1, AV.int IntKind.i64 16, AV.int IntKind.i64 64] ∧ AV.tup [AV.int IntKind.i64 (IntKind.wrap IntKind.i64 (↑(hexV 0 s1) : Int)), AV.int IntKind.i64 0] = v)) := by kernel_rfl
  exact ends_round hT 100000 (by kernel_rfl) (e.mpr H)

theorem t46a {v : AV} {s : List UInt8} (hT : TabOk cfg (ctab [(71, hexDC)])) (H :
    ToEnd cfg 46 (bodyOf Tryd.f46) (RetIs Tryd.prog Tryd.f46 v) [Fm.code [0, 0, 1, 1, 1], Fm.block 0, Fm.code [1, 1, 1, 1]] XT.normal [(0, true, AV.str s), (3, true, AV.int IntKind.i64 0), (4, true, AV.int IntKind.i64 0)] []) :
    ToEnd cfg 46 (bodyOf Tryd.f46) (RetIs Tryd.prog Tryd.f46 v) ([.code []]) .normal ([(0, true, .str s)]) ([]) := by
  have e : unr cfg 46 (bodyOf Tryd.f46) (ctab [(71, hexDC)]) ⟨[[0, 0, 1, 1, 1], [0, 1, 0, 1, 1, 1, 1, 1]], []⟩ (RetIs Tryd.prog Tryd.f46 v) 100000 ([.code []]) .normal ([(0, true, .str s)]) ([]) =
    (ToEnd cfg 46 (bodyOf Tryd.f46) (RetIs Tryd.prog Tryd.f46 v) [Fm.code [0, 0, 1, 1, 1], Fm.block 0, Fm.code [1, 1, 1, 1]] XT.normal [(0, true, AV.str s), (3, true, AV.int IntKind.i64 0), (4, true, AV.int IntKind.i64 0)] []) := by kernel_rfl
  exact unr_ok hT 100000 _ _ _ _ (e.mpr H)

theorem t46b {v : AV}  {s0 : List UInt8} {i3 : Int} {i4 : Int} (hT : TabOk cfg (ctab [(71, hexDC)])) (H :
    ifP (decide (i4 < (↑(List.length s0) : Int))) (gAnd (inR i4 (List.length s0)) (∃ (c1 : UInt8), [AV.int IntKind.u8 (↑(UInt8.toNat (List.getD s0 (Int.toNat i4) 0)) : Int)] = [AV.int IntKind.u8 (↑(UInt8.toNat c1) : Int)] ∧ ifP (decide ((if hexB c1 = true then (↑(hexD c1) : Int) else -1) ≥ 0)) (ifP (decide (i4 < 9)) (gAnd (inR i4 (List.length s0)) (∃ (c2 : UInt8), [AV.int IntKind.u8 (↑(UInt8.toNat (List.getD s0 (Int.toNat i4) 0)) : Int)] = [AV.int IntKind.u8 (↑(UInt8.toNat c2) : Int)] ∧ ToEnd cfg 46 (bodyOf Tryd.f46) (RetIs Tryd.prog Tryd.f46 v) [Fm.code [0, 0, 1, 1, 1], Fm.block 0, Fm.code [1, 1, 1, 1]] XT.normal [(0, true, AV.str s0), (3, true, AV.int IntKind.i64 (IntKind.wrap IntKind.i64 (IntKind.wrap IntKind.i64 (16 * i3) + if hexB c2 = true then (↑(hexD c2) : Int) else -1))), (4, true, AV.int IntKind.i64 (IntKind.wrap IntKind.i64 (i4 + 1)))] [])) (ifP (i4 == 0) (AV.int IntKind.i64 (-1) = v) (ifP (decide (i4 > 8)) (AV.int IntKind.i64 (-1) = v) (ifP (decide (i4 < (↑(List.length s0) : Int))) (gAnd (inR i4 (List.length s0)) (ifP ((↑(UInt8.toNat (List.getD s0 (Int.toNat i4) 0)) : Int) != 59) (AV.int IntKind.i64 (-1) = v) (ToEnd cfg 46 (bodyOf Tryd.f46) (RetIs Tryd.prog Tryd.f46 v) [Fm.code [0, 1, 0, 1, 1, 1, 1, 1], Fm.block 2, Fm.code [1, 1, 1, 1, 1, 1]] XT.normal [(0, true, AV.str s0), (3, true, AV.int IntKind.i64 i3), (5, true, AV.int IntKind.i64 (IntKind.wrap IntKind.i64 (i4 + 1)))] []))) (ToEnd cfg 46 (bodyOf Tryd.f46) (RetIs Tryd.prog Tryd.f46 v) [Fm.code [0, 1, 0, 1, 1, 1, 1, 1], Fm.block 2, Fm.code [1, 1, 1, 1, 1, 1]] XT.normal [(0, true, AV.str s0), (3, true, AV.int IntKind.i64 i3), (5, true, AV.int IntKind.i64 (IntKind.wrap IntKind.i64 (i4 + 1)))] []))))) (ifP (i4 == 0) (AV.int IntKind.i64 (-1) = v) (ifP (decide (i4 > 8)) (AV.int IntKind.i64 (-1) = v) (ifP (decide (i4 < (↑(List.length s0) : Int))) (gAnd (inR i4 (List.length s0)) (ifP ((↑(UInt8.toNat (List.getD s0 (Int.toNat i4) 0)) : Int) != 59) (AV.int IntKind.i64 (-1) = v) (ToEnd cfg 46 (bodyOf Tryd.f46) (RetIs Tryd.prog Tryd.f46 v) [Fm.code [0, 1, 0, 1, 1, 1, 1, 1], Fm.block 2, Fm.code [1, 1, 1, 1, 1, 1]] XT.normal [(0, true, AV.str s0), (3, true, AV.int IntKind.i64 i3), (5, true, AV.int IntKind.i64 (IntKind.wrap IntKind.i64 (i4 + 1)))] []))) (ToEnd cfg 46 (bodyOf Tryd.f46) (RetIs Tryd.prog Tryd.f46 v) [Fm.code [0, 1, 0, 1, 1, 1, 1, 1], Fm.block 2, Fm.code [1, 1, 1, 1, 1, 1]] XT.normal [(0, true, AV.str s0), (3, true, AV.int IntKind.i64 i3), (5, true, AV.int IntKind.i64 (IntKind.wrap IntKind.i64 (i4 + 1)))] [])))))) (ifP (i4 == 0) (AV.int IntKind.i64 (-1) = v) (ifP (decide (i4 > 8)) (AV.int IntKind.i64 (-1) = v) (ifP (decide (i4 < (↑(List.length s0) : Int))) (gAnd (inR i4 (List.length s0)) (ifP ((↑(UInt8.toNat (List.getD s0 (Int.toNat i4) 0)) : Int) != 59) (AV.int IntKind.i64 (-1) = v) (ToEnd cfg 46 (bodyOf Tryd.f46) (RetIs Tryd.prog Tryd.f46 v) [Fm.code [0, 1, 0, 1, 1, 1, 1, 1], Fm.block 2, Fm.code [1, 1, 1, 1, 1, 1]] XT.normal [(0, true, AV.str s0), (3, true, AV.int IntKind.i64 i3), (5, true, AV.int IntKind.i64 (IntKind.wrap IntKind.i64 (i4 + 1)))] []))) (ToEnd cfg 46 (bodyOf Tryd.f46) (RetIs Tryd.prog Tryd.f46 v) [Fm.code [0, 1, 0, 1, 1, 1, 1, 1], Fm.block 2, Fm.code [1, 1, 1, 1, 1, 1]] XT.normal [(0, true, AV.str s0), (3, true, AV.int IntKind.i64 i3), (5, true, AV.int IntKind.i64 (IntKind.wrap IntKind.i64 (i4 + 1)))] []))))) :
    ToEnd cfg 46 (bodyOf Tryd.f46) (RetIs Tryd.prog Tryd.f46 v) ([.code [0, 0, 1, 1, 1], Fm.block 0, Fm.code [1, 1, 1, 1]]) .normal ([(0, true, AV.str s0), (3, true, AV.int IntKind.i64 i3), (4, true, AV.int IntKind.i64 i4)]) ([]) := by
  have e : unr cfg 46 (bodyOf Tryd.f46) (ctab [(71, hexDC)]) ⟨[[0, 0, 1, 1, 1], [0, 1, 0, 1, 1, 1, 1, 1]], []⟩ (RetIs Tryd.prog Tryd.f46 v) 100000 ([.code [0, 0, 0, 1, 1, 1], .loop [0, 0, 1, 1, 1] 0, Fm.block 0, Fm.code [1, 1, 1, 1]]) .normal ([(0, true, AV.str s0), (3, true, AV.int IntKind.i64 i3), (4, true, AV.int IntKind.i64 i4)]) ([]) =
    (ifP (decide (i4 < (↑(List.length s0) : Int))) (gAnd (inR i4 (List.length s0)) (∃ (c1 : UInt8), [AV.int IntKind.u8 (↑(UInt8.toNat (List.getD s0 (Int.toNat i4) 0)) : Int)] = [AV.int IntKind.u8 (↑(UInt8.toNat c1) : Int)] ∧ ifP (decide ((if hexB c1 = true then (↑(hexD c1) : Int) else -1) ≥ 0)) (ifP (decide (i4 < 9)) (gAnd (inR i4 (List.length s0)) (∃ (c2 : UInt8), [AV.int IntKind.u8 (↑(UInt8.toNat (List.getD s0 (Int.toNat i4) 0)) : Int)] = [AV.int IntKind.u8 (↑(UInt8.toNat c2) : Int)] ∧ ToEnd cfg 46 (bodyOf Tryd.f46) (RetIs Tryd.prog Tryd.f46 v) [Fm.code [0, 0, 1, 1, 1], Fm.block 0, Fm.code [1, 1, 1, 1]] XT.normal [(0, true, AV.str s0), (3, true, AV.int IntKind.i64 (IntKind.wrap IntKind.i64 (IntKind.wrap IntKind.i64 (16 * i3) + if hexB c2 = true then (↑(hexD c2) : Int) else -1))), (4, true, AV.int IntKind.i64 (IntKind.wrap IntKind.i64 (i4 + 1)))] [])) (ifP (i4 == 0) (AV.int IntKind.i64 (-1) = v) (ifP (decide (i4 > 8)) (AV.int IntKind.i64 (-1) = v) (ifP (decide (i4 < (↑(List.length s0) : Int))) (gAnd (inR i4 (List.length s0)) (ifP ((↑(UInt8.toNat (List.getD s0 (Int.toNat i4) 0)) : Int) != 59) (AV.int IntKind.i64 (-1) = v) (ToEnd cfg 46 (bodyOf Tryd.f46) (RetIs Tryd.prog Tryd.f46 v) [Fm.code [0, 1, 0, 1, 1, 1, 1, 1], Fm.block 2, Fm.code [1, 1, 1, 1, 1, 1]] XT.normal [(0, true, AV.str s0), (3, true, AV.int IntKind.i64 i3), (5, true, AV.int IntKind.i64 (IntKind.wrap IntKind.i64 (i4 + 1)))] []))) (ToEnd cfg 46 (bodyOf Tryd.f46) (RetIs Tryd.prog Tryd.f46 v) [Fm.code [0, 1, 0, 1, 1, 1, 1, 1], Fm.block 2, Fm.code [1, 1, 1, 1, 1, 1]] XT.normal [(0, true, AV.str s0), (3, true, AV.int IntKind.i64 i3), (5, true, AV.int IntKind.i64 (IntKind.wrap IntKind.i64 (i4 + 1)))] []))))) (ifP (i4 == 0) (AV.int IntKind.i64 (-1) = v) (ifP (decide (i4 > 8)) (AV.int IntKind.i64 (-1) = v) (ifP (decide (i4 < (↑(List.length s0) : Int))) (gAnd (inR i4 (List.length s0)) (ifP ((↑(UInt8.toNat (List.getD s0 (Int.toNat i4) 0)) : Int) != 59) (AV.int IntKind.i64 (-1) = v) (ToEnd cfg 46 (bodyOf Tryd.f46) (RetIs Tryd.prog Tryd.f46 v) [Fm.code [0, 1, 0, 1, 1, 1, 1, 1], Fm.block 2, Fm.code [1, 1, 1, 1, 1, 1]] XT.normal [(0, true, AV.str s0), (3, true, AV.int IntKind.i64 i3), (5, true, AV.int IntKind.i64 (IntKind.wrap IntKind.i64 (i4 + 1)))] []))) (ToEnd cfg 46 (bodyOf Tryd.f46) (RetIs Tryd.prog Tryd.f46 v) [Fm.code [0, 1, 0, 1, 1, 1, 1, 1], Fm.block 2, Fm.code [1, 1, 1, 1, 1, 1]] XT.normal [(0, true, AV.str s0), (3, true, AV.int IntKind.i64 i3), (5, true, AV.int IntKind.i64 (IntKind.wrap IntKind.i64 (i4 + 1)))] [])))))) (ifP (i4 == 0) (AV.int IntKind.i64 (-1) = v) (ifP (decide (i4 > 8)) (AV.int IntKind.i64 (-1) = v) (ifP (decide (i4 < (↑(List.length s0) : Int))) (gAnd (inR i4 (List.length s0)) (ifP ((↑(UInt8.toNat (List.getD s0 (Int.toNat i4) 0)) : Int) != 59) (AV.int IntKind.i64 (-1) = v) (ToEnd cfg 46 (bodyOf Tryd.f46) (RetIs Tryd.prog Tryd.f46 v) [Fm.code [0, 1, 0, 1, 1, 1, 1, 1], Fm.block 2, Fm.code [1, 1, 1, 1, 1, 1]] XT.normal [(0, true, AV.str s0), (3, true, AV.int IntKind.i64 i3), (5, true, AV.int IntKind.i64 (IntKind.wrap IntKind.i64 (i4 + 1)))] []))) (ToEnd cfg 46 (bodyOf Tryd.f46) (RetIs Tryd.prog Tryd.f46 v) [Fm.code [0, 1, 0, 1, 1, 1, 1, 1], Fm.block 2, Fm.code [1, 1, 1, 1, 1, 1]] XT.normal [(0, true, AV.str s0), (3, true, AV.int IntKind.i64 i3), (5, true, AV.int IntKind.i64 (IntKind.wrap IntKind.i64 (i4 + 1)))] []))))) := by kernel_rfl
  exact ends_round hT 100000 (by kernel_rfl) (e.mpr H)

theorem t46c {v : AV}  {s0 : List UInt8} {i3 : Int}  {i5 : Int} (hT : TabOk cfg (ctab [(71, hexDC)])) (H :
    ifP (decide (i5 < (↑(List.length s0) : Int))) (gAnd (inR i5 (List.length s0)) (ifP ((↑(UInt8.toNat (List.getD s0 (Int.toNat i5) 0)) : Int) != 9) (gAnd (inR i5 (List.length s0)) (ifP (decide ((↑(UInt8.toNat (List.getD s0 (Int.toNat i5) 0)) : Int) < 32)) (AV.int IntKind.i64 (-1) = v) (gAnd (inR i5 (List.length s0)) (ifP (decide ((↑(UInt8.toNat (List.getD s0 (Int.toNat i5) 0)) : Int) > 126)) (AV.int IntKind.i64 (-1) = v) (ToEnd cfg 46 (bodyOf Tryd.f46) (RetIs Tryd.prog Tryd.f46 v) [Fm.code [0, 1, 0, 1, 1, 1, 1, 1], Fm.block 2, Fm.code [1, 1, 1, 1, 1, 1]] XT.normal [(0, true, AV.str s0), (3, true, AV.int IntKind.i64 i3), (5, true, AV.int IntKind.i64 (IntKind.wrap IntKind.i64 (i5 + 1)))] []))))) (ToEnd cfg 46 (bodyOf Tryd.f46) (RetIs Tryd.prog Tryd.f46 v) [Fm.code [0, 1, 0, 1, 1, 1, 1, 1], Fm.block 2, Fm.code [1, 1, 1, 1, 1, 1]] XT.normal [(0, true, AV.str s0), (3, true, AV.int IntKind.i64 i3), (5, true, AV.int IntKind.i64 (IntKind.wrap IntKind.i64 (i5 + 1)))] []))) (AV.int IntKind.i64 i3 = v)) :
    ToEnd cfg 46 (bodyOf Tryd.f46) (RetIs Tryd.prog Tryd.f46 v) ([.code [0, 1, 0, 1, 1, 1, 1, 1], Fm.block 2, Fm.code [1, 1, 1, 1, 1, 1]]) .normal ([(0, true, AV.str s0), (3, true, AV.int IntKind.i64 i3), (5, true, AV.int IntKind.i64 i5)]) ([]) := by
  have e : unr cfg 46 (bodyOf Tryd.f46) (ctab [(71, hexDC)]) ⟨[[0, 0, 1, 1, 1], [0, 1, 0, 1, 1, 1, 1, 1]], []⟩ (RetIs Tryd.prog Tryd.f46 v) 100000 ([.code [0, 0, 1, 0, 1, 1, 1, 1, 1], .loop [0, 1, 0, 1, 1, 1, 1, 1] 0, Fm.block 2, Fm.code [1, 1, 1, 1, 1, 1]]) .normal ([(0, true, AV.str s0), (3, true, AV.int IntKind.i64 i3), (5, true, AV.int IntKind.i64 i5)]) ([]) =
    (ifP (decide (i5 < (↑(List.length s0) : Int))) (gAnd (inR i5 (List.length s0)) (ifP ((↑(UInt8.toNat (List.getD s0 (Int.toNat i5) 0)) : Int) != 9) (gAnd (inR i5 (List.length s0)) (ifP (decide ((↑(UInt8.toNat (List.getD s0 (Int.toNat i5) 0)) : Int) < 32)) (AV.int IntKind.i64 (-1) = v) (gAnd (inR i5 (List.length s0)) (ifP (decide ((↑(UInt8.toNat (List.getD s0 (Int.toNat i5) 0)) : Int) > 126)) (AV.int IntKind.i64 (-1) = v) (ToEnd cfg 46 (bodyOf Tryd.f46) (RetIs Tryd.prog Tryd.f46 v) [Fm.code [0, 1, 0, 1, 1, 1, 1, 1], Fm.block 2, Fm.code [1, 1, 1, 1, 1, 1]] XT.normal [(0, true, AV.str s0), (3, true, AV.int IntKind.i64 i3), (5, true, AV.int IntKind.i64 (IntKind.wrap IntKind.i64 (i5 + 1)))] []))))) (ToEnd cfg 46 (bodyOf Tryd.f46) (RetIs Tryd.prog Tryd.f46 v) [Fm.code [0, 1, 0, 1, 1, 1, 1, 1], Fm.block 2, Fm.code [1, 1, 1, 1, 1, 1]] XT.normal [(0, true, AV.str s0), (3, true, AV.int IntKind.i64 i3), (5, true, AV.int IntKind.i64 (IntKind.wrap IntKind.i64 (i5 + 1)))] []))) (AV.int IntKind.i64 i3 = v)) := by kernel_rfl
  exact ends_round hT 100000 (by kernel_rfl) (e.mpr H)

theorem t45a {v : AV} {s : List UInt8} {n : Int} (hT : TabOk cfg (ctab [(47, endsC)])) (H :
    ToEnd cfg 45 (bodyOf Tryd.f45) (RetIs Tryd.prog Tryd.f45 v) [Fm.code [0, 1, 0, 1], Fm.block 0, Fm.code [1, 1]] XT.normal [(0, true, AV.str s), (1, true, AV.int IntKind.i64 n), (6, true, AV.int IntKind.i64 n)] []) :
    ToEnd cfg 45 (bodyOf Tryd.f45) (RetIs Tryd.prog Tryd.f45 v) ([.code []]) .normal ([(0, true, .str s), (1, true, .int .i64 n)]) ([]) := by
  have e : unr cfg 45 (bodyOf Tryd.f45) (ctab [(47, endsC)]) ⟨[[0, 1, 0, 1]], []⟩ (RetIs Tryd.prog Tryd.f45 v) 100000 ([.code []]) .normal ([(0, true, .str s), (1, true, .int .i64 n)]) ([]) =
    (ToEnd cfg 45 (bodyOf Tryd.f45) (RetIs Tryd.prog Tryd.f45 v) [Fm.code [0, 1, 0, 1], Fm.block 0, Fm.code [1, 1]] XT.normal [(0, true, AV.str s), (1, true, AV.int IntKind.i64 n), (6, true, AV.int IntKind.i64 n)] []) := by kernel_rfl
  exact unr_ok hT 100000 _ _ _ _ (e.mpr H)

theorem t45b {v : AV}   {s0 : List UInt8} {i1 : Int} {i6 : Int} (hT : TabOk cfg (ctab [(47, endsC)])) (H :
    ifP (decide (i6 ≤ IntKind.wrap IntKind.i64 (i1 + 2048))) (∃ (s1 : List UInt8), ∃ (n2 : Nat), List.length s1 ≤ 10000000 ∧ n2 ≤ 10000000 ∧ [AV.str s0, AV.int IntKind.i64 i6] = [AV.str s1, AV.int IntKind.i64 (↑n2 : Int)] ∧ ifP (endsB s1 n2) (AV.tup [AV.int IntKind.i64 i6, AV.int IntKind.i64 0] = v) (ToEnd cfg 45 (bodyOf Tryd.f45) (RetIs Tryd.prog Tryd.f45 v) [Fm.code [0, 1, 0, 1], Fm.block 0, Fm.code [1, 1]] XT.normal [(0, true, AV.str s0), (1, true, AV.int IntKind.i64 i1), (6, true, AV.int IntKind.i64 (IntKind.wrap IntKind.i64 (i6 + 1)))] [])) (ifP (decide (IntKind.wrap IntKind.i64 ((↑(List.length s0) : Int) - i1) ≥ 2050)) (AV.tup [AV.int IntKind.i64 0, AV.int IntKind.i64 3] = v) (AV.tup [AV.int IntKind.i64 0, AV.int IntKind.i64 6] = v))) :
    ToEnd cfg 45 (bodyOf Tryd.f45) (RetIs Tryd.prog Tryd.f45 v) ([.code [0, 1, 0, 1], Fm.block 0, Fm.code [1, 1]]) .normal ([(0, true, AV.str s0), (1, true, AV.int IntKind.i64 i1), (6, true, AV.int IntKind.i64 i6)]) ([]) := by
  have e : unr cfg 45 (bodyOf Tryd.f45) (ctab [(47, endsC)]) ⟨[[0, 1, 0, 1]], []⟩ (RetIs Tryd.prog Tryd.f45 v) 100000 ([.code [0, 0, 1, 0, 1], .loop [0, 1, 0, 1] 0, Fm.block 0, Fm.code [1, 1]]) .normal ([(0, true, AV.str s0), (1, true, AV.int IntKind.i64 i1), (6, true, AV.int IntKind.i64 i6)]) ([]) =
    (ifP (decide (i6 ≤ IntKind.wrap IntKind.i64 (i1 + 2048))) (∃ (s1 : List UInt8), ∃ (n2 : Nat), List.length s1 ≤ 10000000 ∧ n2 ≤ 10000000 ∧ [AV.str s0, AV.int IntKind.i64 i6] = [AV.str s1, AV.int IntKind.i64 (↑n2 : Int)] ∧ ifP (endsB s1 n2) (AV.tup [AV.int IntKind.i64 i6, AV.int IntKind.i64 0] = v) (ToEnd cfg 45 (bodyOf Tryd.f45) (RetIs Tryd.prog Tryd.f45 v) [Fm.code [0, 1, 0, 1], Fm.block 0, Fm.code [1, 1]] XT.normal [(0, true, AV.str s0), (1, true, AV.int IntKind.i64 i1), (6, true, AV.int IntKind.i64 (IntKind.wrap IntKind.i64 (i6 + 1)))] [])) (ifP (decide (IntKind.wrap IntKind.i64 ((↑(List.length s0) : Int) - i1) ≥ 2050)) (AV.tup [AV.int IntKind.i64 0, AV.int IntKind.i64 3] = v) (AV.tup [AV.int IntKind.i64 0, AV.int IntKind.i64 6] = v))) := by kernel_rfl
  exact ends_round hT 100000 (by kernel_rfl) (e.mpr H)

theorem t48a {v : AV} {s : List UInt8} {n : Int} (hT : TabOk cfg (ctab [(47, endsC)])) (H :
    ∃ (s1 : List UInt8), ∃ (n2 : Nat), List.length s1 ≤ 10000000 ∧ n2 ≤ 10000000 ∧ [AV.str s, AV.int IntKind.i64 n] = [AV.str s1, AV.int IntKind.i64 (↑n2 : Int)] ∧ ifP (endsB s1 n2) (AV.tup [AV.int IntKind.i64 (IntKind.wrap IntKind.i64 (n + 2)), AV.int IntKind.i64 0] = v) (ToEnd cfg 48 (bodyOf Tryd.f48) (RetIs Tryd.prog Tryd.f48 v) [Fm.code [0, 1, 0, 1, 1], Fm.block 0, Fm.code [1, 1, 1]] XT.normal [(0, true, AV.str s), (1, true, AV.int IntKind.i64 n), (6, true, AV.int IntKind.i64 n)] [])) :
    ToEnd cfg 48 (bodyOf Tryd.f48) (RetIs Tryd.prog Tryd.f48 v) ([.code []]) .normal ([(0, true, .str s), (1, true, .int .i64 n)]) ([]) := by
  have e : unr cfg 48 (bodyOf Tryd.f48) (ctab [(47, endsC)]) ⟨[[0, 1, 0, 1, 1]], []⟩ (RetIs Tryd.prog Tryd.f48 v) 100000 ([.code []]) .normal ([(0, true, .str s), (1, true, .int .i64 n)]) ([]) =
    (∃ (s1 : List UInt8), ∃ (n2 : Nat), List.length s1 ≤ 10000000 ∧ n2 ≤ 10000000 ∧ [AV.str s, AV.int IntKind.i64 n] = [AV.str s1, AV.int IntKind.i64 (↑n2 : Int)] ∧ ifP (endsB s1 n2) (AV.tup [AV.int IntKind.i64 (IntKind.wrap IntKind.i64 (n + 2)), AV.int IntKind.i64 0] = v) (ToEnd cfg 48 (bodyOf Tryd.f48) (RetIs Tryd.prog Tryd.f48 v) [Fm.code [0, 1, 0, 1, 1], Fm.block 0, Fm.code [1, 1, 1]] XT.normal [(0, true, AV.str s), (1, true, AV.int IntKind.i64 n), (6, true, AV.int IntKind.i64 n)] [])) := by kernel_rfl
  exact unr_ok hT 100000 _ _ _ _ (e.mpr H)

theorem t48b {v : AV}   {s0 : List UInt8} {i1 : Int} {i6 : Int} (hT : TabOk cfg (ctab [(47, endsC)])) (H :
    ifP (decide (IntKind.wrap IntKind.i64 (i6 + 4) ≤ IntKind.wrap IntKind.i64 (i1 + 8192))) (∃ (s1 : List UInt8), ∃ (n2 : Nat), List.length s1 ≤ 10000000 ∧ n2 ≤ 10000000 ∧ [AV.str s0, AV.int IntKind.i64 i6] = [AV.str s1, AV.int IntKind.i64 (↑n2 : Int)] ∧ ifP (endsB s1 n2) (∃ (s3 : List UInt8), ∃ (n4 : Nat), List.length s3 ≤ 10000000 ∧ n4 ≤ 10000000 ∧ [AV.str s0, AV.int IntKind.i64 (IntKind.wrap IntKind.i64 (i6 + 2))] = [AV.str s3, AV.int IntKind.i64 (↑n4 : Int)] ∧ ifP (endsB s3 n4) (AV.tup [AV.int IntKind.i64 (IntKind.wrap IntKind.i64 (i6 + 4)), AV.int IntKind.i64 0] = v) (ToEnd cfg 48 (bodyOf Tryd.f48) (RetIs Tryd.prog Tryd.f48 v) [Fm.code [0, 1, 0, 1, 1], Fm.block 0, Fm.code [1, 1, 1]] XT.normal [(0, true, AV.str s0), (1, true, AV.int IntKind.i64 i1), (6, true, AV.int IntKind.i64 (IntKind.wrap IntKind.i64 (i6 + 1)))] [])) (ToEnd cfg 48 (bodyOf Tryd.f48) (RetIs Tryd.prog Tryd.f48 v) [Fm.code [0, 1, 0, 1, 1], Fm.block 0, Fm.code [1, 1, 1]] XT.normal [(0, true, AV.str s0), (1, true, AV.int IntKind.i64 i1), (6, true, AV.int IntKind.i64 (IntKind.wrap IntKind.i64 (i6 + 1)))] [])) (ifP (decide (IntKind.wrap IntKind.i64 ((↑(List.length s0) : Int) - i1) ≥ 8192)) (AV.tup [AV.int IntKind.i64 0, AV.int IntKind.i64 3] = v) (AV.tup [AV.int IntKind.i64 0, AV.int IntKind.i64 6] = v))) :
    ToEnd cfg 48 (bodyOf Tryd.f48) (RetIs Tryd.prog Tryd.f48 v) ([.code [0, 1, 0, 1, 1], Fm.block 0, Fm.code [1, 1, 1]]) .normal ([(0, true, AV.str s0), (1, true, AV.int IntKind.i64 i1), (6, true, AV.int IntKind.i64 i6)]) ([]) := by
  have e : unr cfg 48 (bodyOf Tryd.f48) (ctab [(47, endsC)]) ⟨[[0, 1, 0, 1, 1]], []⟩ (RetIs Tryd.prog Tryd.f48 v) 100000 ([.code [0, 0, 1, 0, 1, 1], .loop [0, 1, 0, 1, 1] 0, Fm.block 0, Fm.code [1, 1, 1]]) .normal ([(0, true, AV.str s0), (1, true, AV.int IntKind.i64 i1), (6, true, AV.int IntKind.i64 i6)]) ([]) =
    (ifP (decide (IntKind.wrap IntKind.i64 (i6 + 4) ≤ IntKind.wrap IntKind.i64 (i1 + 8192))) (∃ (s1 : List UInt8), ∃ (n2 : Nat), List.length s1 ≤ 10000000 ∧ n2 ≤ 10000000 ∧ [AV.str s0, AV.int IntKind.i64 i6] = [AV.str s1, AV.int IntKind.i64 (↑n2 : Int)] ∧ ifP (endsB s1 n2) (∃ (s3 : List UInt8), ∃ (n4 : Nat), List.length s3 ≤ 10000000 ∧ n4 ≤ 10000000 ∧ [AV.str s0, AV.int IntKind.i64 (IntKind.wrap IntKind.i64 (i6 + 2))] = [AV.str s3, AV.int IntKind.i64 (↑n4 : Int)] ∧ ifP (endsB s3 n4) (AV.tup [AV.int IntKind.i64 (IntKind.wrap IntKind.i64 (i6 + 4)), AV.int IntKind.i64 0] = v) (ToEnd cfg 48 (bodyOf Tryd.f48) (RetIs Tryd.prog Tryd.f48 v) [Fm.code [0, 1, 0, 1, 1], Fm.block 0, Fm.code [1, 1, 1]] XT.normal [(0, true, AV.str s0), (1, true, AV.int IntKind.i64 i1), (6, true, AV.int IntKind.i64 (IntKind.wrap IntKind.i64 (i6 + 1)))] [])) (ToEnd cfg 48 (bodyOf Tryd.f48) (RetIs Tryd.prog Tryd.f48 v) [Fm.code [0, 1, 0, 1, 1], Fm.block 0, Fm.code [1, 1, 1]] XT.normal [(0, true, AV.str s0), (1, true, AV.int IntKind.i64 i1), (6, true, AV.int IntKind.i64 (IntKind.wrap IntKind.i64 (i6 + 1)))] [])) (ifP (decide (IntKind.wrap IntKind.i64 ((↑(List.length s0) : Int) - i1) ≥ 8192)) (AV.tup [AV.int IntKind.i64 0, AV.int IntKind.i64 3] = v) (AV.tup [AV.int IntKind.i64 0, AV.int IntKind.i64 6] = v))) := by kernel_rfl
  exact ends_round hT 100000 (by kernel_rfl) (e.mpr H)

theorem t51a {v : AV} {n : Int} (hT : TabOk cfg (ctab [])) (H :
    ToEnd cfg 51 (bodyOf Tryd.f51) (RetIs Tryd.prog Tryd.f51 v) [Fm.code [0, 1, 1], Fm.block 0] XT.normal [(0, true, AV.int IntKind.i64 n), (3, true, AV.str [])] []) :
    ToEnd cfg 51 (bodyOf Tryd.f51) (RetIs Tryd.prog Tryd.f51 v) ([.code []]) .normal ([(0, true, .int .i64 n)]) ([]) := by
  have e : unr cfg 51 (bodyOf Tryd.f51) (ctab []) ⟨[[0, 1, 1]], []⟩ (RetIs Tryd.prog Tryd.f51 v) 100000 ([.code []]) .normal ([(0, true, .int .i64 n)]) ([]) =
    (ToEnd cfg 51 (bodyOf Tryd.f51) (RetIs Tryd.prog Tryd.f51 v) [Fm.code [0, 1, 1], Fm.block 0] XT.normal [(0, true, AV.int IntKind.i64 n), (3, true, AV.str [])] []) := by kernel_rfl
  exact unr_ok hT 100000 _ _ _ _ (e.mpr H)

theorem t51b {v : AV}  {i0 : Int} {s3 : List UInt8} (hT : TabOk cfg (ctab [])) (H :
    gAnd (inR (Int.tmod i0 16) 16) (gAnd (rowsB [[AV.int IntKind.u8 (↑(UInt8.toNat (List.getD [48, 49, 50, 51, 52, 53, 54, 55, 56, 57, 97, 98, 99, 100, 101, 102] (Int.toNat (Int.tmod i0 16)) 0)) : Int)]]) (gAnd (decide (1 + List.length s3 ≤ 9223372036854775807)) (ifP (IntKind.wrap IntKind.i64 (Int.tdiv i0 16) == 0) (AV.str (rowV [AV.int IntKind.u8 (↑(UInt8.toNat (List.getD [48, 49, 50, 51, 52, 53, 54, 55, 56, 57, 97, 98, 99, 100, 101, 102] (Int.toNat (Int.tmod i0 16)) 0)) : Int)] :: List.append [] s3) = v) (ToEnd cfg 51 (bodyOf Tryd.f51) (RetIs Tryd.prog Tryd.f51 v) [Fm.code [0, 1, 1], Fm.block 0] XT.normal [(0, true, AV.int IntKind.i64 (IntKind.wrap IntKind.i64 (Int.tdiv i0 16))), (3, true, AV.str (rowV [AV.int IntKind.u8 (↑(UInt8.toNat (List.getD [48, 49, 50, 51, 52, 53, 54, 55, 56, 57, 97, 98, 99, 100, 101, 102] (Int.toNat (Int.tmod i0 16)) 0)) : Int)] :: List.append [] s3))] []))))) :
    ToEnd cfg 51 (bodyOf Tryd.f51) (RetIs Tryd.prog Tryd.f51 v) ([.code [0, 1, 1], Fm.block 0]) .normal ([(0, true, AV.int IntKind.i64 i0), (3, true, AV.str s3)]) ([]) := by
  have e : unr cfg 51 (bodyOf Tryd.f51) (ctab []) ⟨[[0, 1, 1]], []⟩ (RetIs Tryd.prog Tryd.f51 v) 100000 ([.code [0, 0, 1, 1], .loop [0, 1, 1] 0, Fm.block 0]) .normal ([(0, true, AV.int IntKind.i64 i0), (3, true, AV.str s3)]) ([]) =
    (gAnd (inR (Int.tmod i0 16) 16) (gAnd (rowsB [[AV.int IntKind.u8 (↑(UInt8.toNat (List.getD [48, 49, 50, 51, 52, 53, 54, 55, 56, 57, 97, 98, 99, 100, 101, 102] (Int.toNat (Int.tmod i0 16)) 0)) : Int)]]) (gAnd (decide (1 + List.length s3 ≤ 9223372036854775807)) (ifP (IntKind.wrap IntKind.i64 (Int.tdiv i0 16) == 0) (AV.str (rowV [AV.int IntKind.u8 (↑(UInt8.toNat (List.getD [48, 49, 50, 51, 52, 53, 54, 55, 56, 57, 97, 98, 99, 100, 101, 102] (Int.toNat (Int.tmod i0 16)) 0)) : Int)] :: List.append [] s3) = v) (ToEnd cfg 51 (bodyOf Tryd.f51) (RetIs Tryd.prog Tryd.f51 v) [Fm.code [0, 1, 1], Fm.block 0] XT.normal [(0, true, AV.int IntKind.i64 (IntKind.wrap IntKind.i64 (Int.tdiv i0 16))), (3, true, AV.str (rowV [AV.int IntKind.u8 (↑(UInt8.toNat (List.getD [48, 49, 50, 51, 52, 53, 54, 55, 56, 57, 97, 98, 99, 100, 101, 102] (Int.toNat (Int.tmod i0 16)) 0)) : Int)] :: List.append [] s3))] []))))) := by kernel_rfl
  exact ends_round hT 100000 (by kernel_rfl) (e.mpr H)

end Go.Proofs.YtnncfdlpogjlkaaDoor
end

section
namespace Go.Proofs.YtnncfdlpogjlkaaDoor
open Go.Ai Go
set_option linter.unusedSimpArgs false
set_option linter.unusedVariables false
set_option linter.unnecessarySimpa false
set_option maxRecDepth 100000

theorem pf110 : pureFn cfg 110 Tryd.f110 := ⟨by kernel_rfl, by kernel_rfl, by kernel_rfl, by kernel_rfl, by kernel_rfl, by kernel_rfl⟩
theorem pf88 : pureFn cfg 88 Tryd.f88 := ⟨by kernel_rfl, by kernel_rfl, by kernel_rfl, by kernel_rfl, by kernel_rfl, by kernel_rfl⟩
theorem pf67 : pureFn cfg 67 Tryd.f67 := ⟨by kernel_rfl, by kernel_rfl, by kernel_rfl, by kernel_rfl, by kernel_rfl, by kernel_rfl⟩
theorem pf43 : pureFn cfg 43 Tryd.f43 := ⟨by kernel_rfl, by kernel_rfl, by kernel_rfl, by kernel_rfl, by kernel_rfl, by kernel_rfl⟩
theorem pf46 : pureFn cfg 46 Tryd.f46 := ⟨by kernel_rfl, by kernel_rfl, by kernel_rfl, by kernel_rfl, by kernel_rfl, by kernel_rfl⟩
theorem pf45 : pureFn cfg 45 Tryd.f45 := ⟨by kernel_rfl, by kernel_rfl, by kernel_rfl, by kernel_rfl, by kernel_rfl, by kernel_rfl⟩
theorem pf48 : pureFn cfg 48 Tryd.f48 := ⟨by kernel_rfl, by kernel_rfl, by kernel_rfl, by kernel_rfl, by kernel_rfl, by kernel_rfl⟩
theorem pf51 : pureFn cfg 51 Tryd.f51 := ⟨by kernel_rfl, by kernel_rfl, by kernel_rfl, by kernel_rfl, by kernel_rfl, by kernel_rfl⟩

theorem wrapU {n : Int} (h0 : 0 ≤ n) (h1 : n ≤ 18446744073709551615) : IntKind.wrap .u64 n = n := by
  simp only [IntKind.wrap, IntKind.bits, IntKind.signed]
  simp; omega

/-! A number of hexadecimal digits -/
theorem or32 : ∀ n, n < 256 → bits .or .u8 (((UInt8.ofNat n).toNat : Nat) : Int) 32 = (((UInt8.ofNat n ||| 32).toNat : Nat) : Int) := by decide +kernel
theorem c110 : COk cfg 110 lowerBC := by
  refine cok_pure pf110 fun vs h K ht => ?_
  obtain ⟨c, rfl, hk⟩ := ht
  refine ⟨_, hk, t110 (ctab_ok ctab_nil) ?_⟩
  have := or32 c.toNat c.toNat_lt
  rw [UInt8.ofNat_toNat] at this
  rw [this]
theorem hex_or : ∀ n, n < 256 → hexB (UInt8.ofNat n) = true → n ≠ 95 ∧ ((48 ≤ n ∧ n ≤ 57 ∧ hexD (UInt8.ofNat n) = n - 48) ∨ (57 < n ∧ 97 ≤ (UInt8.ofNat n ||| 32).toNat ∧ (UInt8.ofNat n ||| 32).toNat ≤ 102 ∧ hexD (UInt8.ofNat n) + 87 = (UInt8.ofNat n ||| 32).toNat)) := by decide +kernel
theorem hexV_snoc (pre : List UInt8) (x : UInt8) : hexV 0 (pre ++ [x]) = 16 * hexV 0 pre + hexD x := by rw [hexV_app]; rfl
theorem hexD_lt {c : UInt8} (h : hexB c = true) : hexD c < 16 := by
  unfold hexB at h
  unfold hexD
  simp only [Bool.or_eq_true, Bool.and_eq_true, decide_eq_true_eq] at h
  repeat' split
  all_goals omega
theorem hexV_lt : ∀ (s : List UInt8) (n : Nat), s.all hexB = true → hexV n s < (n + 1) * 16 ^ s.length
  | [], n, _ => by simp [hexV]
  | c :: r, n, h => by
    rw [List.all_cons, Bool.and_eq_true] at h
    have h1 := hexD_lt h.1
    have h2 := hexV_lt r (16 * n + hexD c) h.2
    rw [hexV, List.length_cons, Nat.pow_succ, ← Nat.mul_assoc, Nat.mul_right_comm]
    refine Nat.lt_of_lt_of_le h2 ?_
    exact Nat.mul_le_mul_right _ (by omega)
theorem hexV_pow {s : List UInt8} {k : Nat} (h : s.all hexB = true) (hl : s.length ≤ k) : hexV 0 s < 16 ^ k := by
  have := hexV_lt s 0 h
  rw [Nat.zero_add, Nat.one_mul] at this
  exact Nat.lt_of_lt_of_le this (Nat.pow_le_pow_right (by omega) hl)
theorem loop88 {s : List UInt8} : ∀ (r pre : List UInt8), (pre ++ r).length ≤ 8 → (pre ++ r).all hexB = true →
    ToEnd cfg 88 (bodyOf Tryd.f88) (RetIs Tryd.prog Tryd.f88 (.tup [.int .u64 (hexV 0 (pre ++ r) : Nat), .nili])) [.code [0, 1, 0, 1, 1, 1, 1, 1, 1, 1, 1, 1, 1, 1], .block 3, .code [1, 1, 1, 1, 1, 1, 1, 1, 1, 1, 1, 1]] .normal
      [(1, true, .int .i64 16), (8, true, .bool false), (9, true, .str s), (10, true, .int .u64 1152921504606846976), (11, true, .int .u64 18446744073709551615), (12, true, .bool false), (13, true, .int .u64 (hexV 0 pre : Nat)), (99, true, .osl 0 0 (pre ++ r).length 1), (100, true, .int .i64 ((pre ++ r).length : Nat)), (101, true, .int .i64 pre.length)] [.mem 5 (bc (pre ++ r))] := by
  have hT : TabOk cfg (ctab [(110, lowerBC)]) := ctab_ok (ctab_cons c110 ctab_nil)
  intro r
  induction r with
  | nil =>
    intro pre hl ha
    refine t88b hT (ifP_intro (fun a => by simp at a) fun _ => ?_)
    rw [List.append_nil]
  | cons x r ih =>
    intro pre hl ha
    have hl' : pre.length + r.length + 1 ≤ 8 := by simp at hl; omega
    have hin : (inR (pre.length : Int) (pre ++ x :: r).length && true && true) = true := by rw [inR_nat (by simp)]; rfl
    have hi : 0 + Int.toNat (pre.length : Int) * 1 = (bc pre).length := by rw [bc_len]; simp
    have hcs : bc (pre ++ x :: r) = bc pre ++ AV.int .u8 ((UInt8.toNat x : Nat) : Int) :: bc r := by rw [bc_app]; rfl
    have hx : hexB x = true := List.all_eq_true.1 ha x (by simp)
    have hp : pre.all hexB = true := List.all_eq_true.2 fun c hc => List.all_eq_true.1 ha c (by simp [hc])
    have hlt := x.toNat_lt
    obtain ⟨n95, hcase⟩ := hex_or x.toNat hlt (by rw [UInt8.ofNat_toNat]; exact hx)
    rw [UInt8.ofNat_toNat] at hcase
    have hn : hexV 0 pre < 16 ^ 7 := hexV_pow hp (by omega)
    have hn : hexV 0 pre < 268435456 := hn
    have hd := hexD_lt hx
    have next : ∀ z : Int, z = ((16 * hexV 0 pre + hexD x : Nat) : Int) → ToEnd cfg 88 (bodyOf Tryd.f88) (RetIs Tryd.prog Tryd.f88 (.tup [.int .u64 (hexV 0 (pre ++ x :: r) : Nat), .nili])) [.code [0, 1, 0, 1, 1, 1, 1, 1, 1, 1, 1, 1, 1, 1], .block 3, .code [1, 1, 1, 1, 1, 1, 1, 1, 1, 1, 1, 1]] .normal
      [(1, true, .int .i64 16), (8, true, .bool false), (9, true, .str s), (10, true, .int .u64 1152921504606846976), (11, true, .int .u64 18446744073709551615), (12, true, .bool false), (13, true, .int .u64 z), (99, true, .osl 0 0 (pre ++ x :: r).length 1), (100, true, .int .i64 ((pre ++ x :: r).length : Nat)), (101, true, .int .i64 (IntKind.wrap .i64 ((pre.length : Int) + 1)))] [.mem 5 (bc (pre ++ x :: r))] := fun z hz => by
      rw [hz, wrap_b (by unfold big; omega)]
      have := ih (pre ++ [x]) (by simpa using hl) (by simpa using ha)
      rw [hexV_snoc] at this
      simpa using this
    have w1 : IntKind.wrap .u64 ((hexV 0 pre : Int) * 16) = ((16 * hexV 0 pre : Nat) : Int) := by rw [wrapU (by omega) (by omega)]; omega
    have w3 : IntKind.wrap .u64 (((16 * hexV 0 pre : Nat) : Int) + ((hexD x : Nat) : Int)) = ((16 * hexV 0 pre + hexD x : Nat) : Int) := by rw [wrapU (by omega) (by omega)]; omega
    have w4 : IntKind.wrap .u64 ((hexD x : Nat) : Int) = ((hexD x : Nat) : Int) := wrapU (by omega) (by omega)
    have fin : ∀ (e : Int) {P : Prop}, e = ((hexD x : Nat) : Int) → P → ifP (decide (e ≥ 16)) False (ifP (decide (((hexV 0 pre : Nat) : Int) ≥ 1152921504606846976)) False (ifP (decide (IntKind.wrap .u64 (IntKind.wrap .u64 (((hexV 0 pre : Nat) : Int) * 16) + IntKind.wrap .u64 e) < IntKind.wrap .u64 (((hexV 0 pre : Nat) : Int) * 16))) False (ifP (decide (IntKind.wrap .u64 (IntKind.wrap .u64 (((hexV 0 pre : Nat) : Int) * 16) + IntKind.wrap .u64 e) > 18446744073709551615)) False P))) := fun e P he hp => by
      subst he
      rw [w4, w1, w3]
      refine ifP_intro (fun a => ?_) fun _ => ifP_intro (fun a => ?_) fun _ => ifP_intro (fun a => ?_) fun _ => ifP_intro (fun a => ?_) fun _ => hp
      all_goals (simp only [decide_eq_true_eq] at a; omega)
    have dig : 48 ≤ x.toNat → x.toNat ≤ 57 → IntKind.wrap .u8 ((x.toNat : Int) - 48) = ((hexD x : Nat) : Int) := fun h1 h2 => by
      rw [wrap_u8 (by omega) (by omega)]
      rcases hcase with h | h <;> omega
    have let' : 57 < x.toNat → IntKind.wrap .u8 (IntKind.wrap .u8 (((x ||| 32).toNat : Int) - 97) + 10) = ((hexD x : Nat) : Int) := fun h1 => by
      rcases hcase with h | h
      · omega
      · have q : IntKind.wrap .u8 (((x ||| 32).toNat : Int) - 97) = ((x ||| 32).toNat : Int) - 97 := wrap_u8 (by omega) (by omega)
        rw [q, wrap_u8 (by omega) (by omega)]; omega
    refine t88b hT (ifP_intro (fun _ => gAnd_intro hin ⟨_, by rw [hcs]; exact take_at hi, ifP_intro (fun b => ?_) fun b => ?_⟩) fun a => by simp at a; omega)
    · exact absurd (show x.toNat = 95 by simp at b; omega) n95
    · have lett : (57 < x.toNat ∨ x.toNat < 48) → 57 < x.toNat ∧ 97 ≤ (x ||| 32).toNat ∧ (x ||| 32).toNat ≤ 122 := fun h => by rcases hcase with h1 | h1 <;> omega
      refine ifP_intro (fun c => ifP_intro (fun d => ?_) fun d => ?_) fun c => ?_
      · simp only [decide_eq_true_eq] at c d
        refine fin _ (dig (by omega) (by omega)) (next _ ?_)
        rw [dig (by omega) (by omega), w4, w1, w3]
      · simp only [decide_eq_true_eq, decide_eq_false_iff_not] at c d
        obtain ⟨l1, l2, l3⟩ := lett (by omega)
        refine ⟨x, rfl, ifP_intro (fun _ => ⟨x, rfl, ifP_intro (fun _ => ⟨x, rfl, fin _ (let' l1) (next _ ?_)⟩) fun e => ?_⟩) fun e => ?_⟩
        · rw [let' l1, w4, w1, w3]
        · simp only [decide_eq_false_iff_not] at e; omega
        · simp only [decide_eq_false_iff_not] at e; omega
      · simp only [decide_eq_false_iff_not] at c
        obtain ⟨l1, l2, l3⟩ := lett (by omega)
        refine ⟨x, rfl, ifP_intro (fun _ => ⟨x, rfl, ifP_intro (fun _ => ⟨x, rfl, fin _ (let' l1) (next _ ?_)⟩) fun e => ?_⟩) fun e => ?_⟩
        · rw [let' l1, w4, w1, w3]
        · simp only [decide_eq_false_iff_not] at e; omega
        · simp only [decide_eq_false_iff_not] at e; omega
theorem c88 : COk cfg 88 puC := by
  refine cok_pure pf88 fun vs h K ht => ?_
  obtain ⟨s, ⟨h0, h1, h2⟩, rfl, hk⟩ := ht
  refine ⟨_, hk, t88a (ctab_ok (ctab_cons c110 ctab_nil)) (ifP_intro (fun a => h0 (by simpa using a)) fun _ => gAnd_intro (Nat.ble_eq_true_of_le (by omega)) ?_)⟩
  exact loop88 s [] h1 h2
theorem c67 : COk cfg 67 puC := by
  refine cok_pure pf67 fun vs h K ht => ?_
  obtain ⟨s, h0, rfl, hk⟩ := ht
  exact ⟨_, hk, t67 (ctab_ok (ctab_cons c88 ctab_nil)) ⟨s, h0, rfl, rfl⟩⟩

/-! Sizes -/
def hxS : List UInt8 := [48, 49, 50, 51, 52, 53, 54, 55, 56, 57, 97, 98, 99, 100, 101, 102, 65, 66, 67, 68, 69, 70]
theorem hx_mem' : ∀ n, n < 256 → hxS.contains (UInt8.ofNat n) = hexB (UInt8.ofNat n) := by decide +kernel
theorem hx_mem (c : UInt8) : hxS.contains c = hexB c := by
  have := hx_mem' c.toNat c.toNat_lt
  rwa [UInt8.ofNat_toNat] at this
theorem trim_hx (p : List UInt8) : Lib.trimS p hxS = [] ↔ p.all hexB = true := by
  have e : (hxS.contains ·) = hexB := funext hx_mem
  unfold Lib.trimS Lib.trimLeftS Lib.trimRightS
  rw [e]
  constructor
  · intro h
    rw [dropWhile_nil, List.all_eq_true] at h
    have h2 : p.reverse.dropWhile hexB = [] := dropWhile_all fun x hx => h x (by simpa using hx)
    rw [dropWhile_nil] at h2
    simpa using h2
  · intro h
    have h2 : p.reverse.dropWhile hexB = [] := dropWhile_nil.2 (by simpa using h)
    rw [h2]; rfl
theorem take_drop_while {p : UInt8 → Bool} {pre r : List UInt8} (h1 : ∀ c ∈ pre, p c = true) (h2 : ∀ c t, r = c :: t → p c = false) : (pre ++ r).takeWhile p = pre ∧ (pre ++ r).dropWhile p = r := by
  induction pre with
  | nil =>
    cases r with
    | nil => exact ⟨rfl, rfl⟩
    | cons c t =>
      have := h2 c t rfl
      rw [List.nil_append, List.takeWhile_cons_of_neg (by simp [this]), List.dropWhile_cons_of_neg (by simp [this])]
      exact ⟨rfl, rfl⟩
  | cons c pre ih =>
    obtain ⟨i1, i2⟩ := ih fun d hd => h1 d (by simp [hd])
    have := h1 c (by simp)
    rw [List.cons_append, List.takeWhile_cons_of_pos this, List.dropWhile_cons_of_pos this, i1, i2]
    exact ⟨rfl, rfl⟩
/-- A size, where its digits end. -/
theorem size_at {pre r : List UInt8} (h1 : ∀ c ∈ pre, hexB c = true) (h2 : ∀ c t, r = c :: t → hexB c = false) : sizeV (pre ++ r) = if pre = [] then none else if 8 < pre.length then none else match r with
    | [] => some (hexV 0 pre)
    | c :: m => if c = 59 ∧ m.all extB = true then some (hexV 0 pre) else none := by
  obtain ⟨e1, e2⟩ := take_drop_while h1 h2
  unfold sizeV
  rw [e1, e2]
  cases r <;> rfl
theorem takeWhile_mem {p : UInt8 → Bool} {c : UInt8} : ∀ {l : List UInt8}, c ∈ l.takeWhile p → p c = true
  | [], h => by cases h
  | d :: l, h => by
    rw [List.takeWhile_cons] at h
    split at h
    · rcases List.mem_cons.1 h with rfl | h
      · assumption
      · exact takeWhile_mem h
    · cases h
theorem size_bad {s : List UInt8} {j : Nat} {x : UInt8} (hx : s[j]? = some x) (h1 : hexB x = false) (h2 : x ≠ 59) (h3 : ∀ i y, i < j → s[i]? = some y → y ≠ 59) : sizeV s = none := by
  have hsplit := List.takeWhile_append_dropWhile (p := hexB) (l := s)
  unfold sizeV
  split
  · rfl
  split
  · rfl
  split
  · rename_i hd
    rw [hd, List.append_nil] at hsplit
    rw [← hsplit] at hx
    have := takeWhile_mem (List.mem_of_getElem? hx)
    rw [h1] at this; cases this
  · rename_i c m hd
    rw [if_neg]
    rintro ⟨rfl, hm⟩
    rw [hd] at hsplit
    have hw : ∀ c ∈ s.takeWhile hexB, hexB c = true := fun c hc => takeWhile_mem hc
    generalize s.takeWhile hexB = w at *
    rcases Nat.lt_trichotomy j w.length with h | h | h
    · rw [← hsplit, List.getElem?_append_left h] at hx
      have := hw _ (List.mem_of_getElem? hx)
      rw [h1] at this; cases this
    · rw [← hsplit, List.getElem?_append_right (by omega), h, Nat.sub_self] at hx
      simp at hx
      exact h2 hx.symm
    · exact h3 _ 59 h (by rw [← hsplit, List.getElem?_append_right (Nat.le_refl _), Nat.sub_self]; simp) rfl
theorem extB_nat (c : UInt8) : extB c = true ↔ c.toNat = 9 ∨ (32 ≤ c.toNat ∧ c.toNat ≤ 126) := by
  unfold extB
  simp only [Bool.or_eq_true, Bool.and_eq_true, decide_eq_true_eq]
theorem tab43 : TabOk cfg (ctab [(65, cutGC), (66, trimSC), (67, puC)]) := ctab_ok (ctab_cons c65 (ctab_cons c66 (ctab_cons c67 ctab_nil)))
theorem loop43 {d : List UInt8} (hd : hexOk d) : ∀ (r pre : List UInt8), (pre ++ r).length ≤ big →
    ToEnd cfg 43 (bodyOf Tryd.f43) (RetIs Tryd.prog Tryd.f43 (if r.all extB = true then .tup [.int .i64 (hexV 0 d : Nat), .int .i64 0] else .tup [.int .i64 0, .int .i64 4])) [.code [0, 1, 0, 1, 1, 1], .block 0, .code [1, 1, 1, 1]] .normal
      [(4, true, .str d), (5, true, .str (pre ++ r)), (30, true, .int .i64 ((pre ++ r).length : Nat)), (31, true, .int .i64 pre.length)] [] := by
  intro r
  induction r with
  | nil =>
    intro pre hl
    refine t43b tab43 (ifP_intro (fun a => by simp at a) fun _ => ⟨d, hd, rfl, ?_⟩)
    have : hexV 0 d < 16 ^ 8 := hexV_pow hd.2.2 hd.2.1
    rw [wrap_in (by omega) (by omega), if_pos (by simp)]
  | cons x r ih =>
    intro pre hl
    have hlen : pre.length ≤ big := by simp at hl; omega
    have next : extB x = true → ToEnd cfg 43 (bodyOf Tryd.f43) (RetIs Tryd.prog Tryd.f43 (if (x :: r).all extB = true then .tup [.int .i64 (hexV 0 d : Nat), .int .i64 0] else .tup [.int .i64 0, .int .i64 4])) [.code [0, 1, 0, 1, 1, 1], .block 0, .code [1, 1, 1, 1]] .normal
      [(4, true, .str d), (5, true, .str (pre ++ x :: r)), (30, true, .int .i64 ((pre ++ x :: r).length : Nat)), (31, true, .int .i64 (IntKind.wrap .i64 ((pre.length : Int) + 1)))] [] := fun hb => by
      rw [wrap_b hlen, List.all_cons, hb, Bool.true_and]
      have := ih (pre ++ [x]) (by simpa using hl)
      simpa using this
    have bad : ¬ extB x = true → AV.tup [.int .i64 0, .int .i64 4] = (if (x :: r).all extB = true then .tup [.int .i64 (hexV 0 d : Nat), .int .i64 0] else .tup [.int .i64 0, .int .i64 4]) := fun hb => by
      rw [List.all_cons, eq_false_of_ne_true hb, Bool.false_and, if_neg (by simp)]
    rw [extB_nat] at next bad
    refine t43b tab43 (ifP_intro (fun _ => gAnd_intro (inR_of (by omega) (by simp; omega)) ?_) fun a => by simp at a; omega)
    rw [at_pre]
    refine ifP_intro (fun b => ifP_intro (fun e => bad ?_) fun e => ifP_intro (fun f => bad ?_) fun f => next ?_) fun b => next ?_ <;>
      simp only [decide_eq_true_eq, decide_eq_false_iff_not, bne_iff_ne, ne_eq, bne_eq_false_iff_eq, beq_iff_eq, beq_eq_false_iff_ne] at * <;> omega
theorem mem_take_get {s : List UInt8} {n : Nat} {c : UInt8} (h : c ∈ s.take n) : ∃ i, i < n ∧ s[i]? = some c := by
  obtain ⟨i, hi⟩ := List.mem_iff_getElem?.1 h
  rw [List.getElem?_take] at hi
  split at hi
  · exact ⟨i, by assumption, hi⟩
  · cases hi
theorem c43 : COk cfg 43 sizeC := by
  refine cok_pure pf43 fun vs h K ht => ?_
  obtain ⟨s, hl, rfl, hk⟩ := ht
  refine ⟨_, hk, t43a tab43 ⟨s, [59], by unfold big at hl; omega, rfl, ?_⟩⟩
  have hc : cutS s [59] = match fnd [59] s with | some n => (s.take n, s.drop (n + 1), true) | none => (s, [], false) := cutS_fnd s [59]
  -- ahead of a semicolon
  obtain ⟨d, m, hdm, hcut, hno⟩ : ∃ d m, (s = d ∧ m = [] ∨ s = d ++ 59 :: m) ∧ (cutS s [59]).1 = d ∧ (cutS s [59]).2.1 = m ∧ ∀ c ∈ d, c ≠ 59 := by
    cases hf : fnd [59] s with
    | none =>
      rw [hc, hf]
      refine ⟨s, [], .inl ⟨rfl, rfl⟩, rfl, rfl, fun c hcm => ?_⟩
      rintro rfl
      obtain ⟨i, hi⟩ := List.mem_iff_getElem?.1 hcm
      have := fnd_none hf i (by simp)
      have hlt := (List.getElem?_eq_some_iff.1 hi).1
      have hv := (List.getElem?_eq_some_iff.1 hi).2
      rw [List.drop_eq_getElem_cons hlt, hv] at this
      simp [List.isPrefixOf] at this
    | some n =>
      rw [hc, hf]
      obtain ⟨h1, h2⟩ := fnd_some hf
      have hlt : n < s.length := by simp at h2; omega
      have hv : s[n] = 59 := by
        rw [List.drop_eq_getElem_cons hlt] at h1
        simp [List.isPrefixOf] at h1
        exact h1.symm
      refine ⟨s.take n, s.drop (n + 1), .inr ?_, rfl, rfl, fun c hcm => ?_⟩
      · have := List.take_append_drop n s
        rw [List.drop_eq_getElem_cons hlt, hv] at this
        exact this.symm
      · rintro rfl
        obtain ⟨i, hin, hi⟩ := mem_take_get hcm
        have := fnd_least hf i hin
        have hlt := (List.getElem?_eq_some_iff.1 hi).1
        have hv := (List.getElem?_eq_some_iff.1 hi).2
        rw [List.drop_eq_getElem_cons hlt, hv] at this
        simp [List.isPrefixOf] at this
  obtain ⟨hm, hno⟩ := hno
  rw [hcut, hm]
  have hds : d.length ≤ s.length := by rcases hdm with ⟨rfl, _⟩ | rfl <;> simp
  have hms : m.length ≤ big := by rcases hdm with ⟨_, rfl⟩ | rfl <;> simp at *; omega
  have hsz : (∀ c ∈ d, hexB c = true) → sizeV s = if d = [] then none else if 8 < d.length then none else if m.all extB = true then some (hexV 0 d) else none := fun ha => by
    rcases hdm with ⟨rfl, rfl⟩ | rfl
    · have := size_at (pre := s) (r := []) ha (fun c t h => by cases h)
      rw [List.append_nil] at this
      rw [this]
      simp
    · have := size_at (pre := d) (r := 59 :: m) ha (fun c t h => by injection h with h _; subst h; decide)
      rw [this]
      simp
  have hbad : ¬ d.all hexB = true → sizeV s = none := fun ha => by
    rw [List.all_eq_true] at ha
    simp only [Classical.not_forall] at ha
    obtain ⟨c, hcm, hcb⟩ := ha
    obtain ⟨i, hi⟩ := List.mem_iff_getElem?.1 hcm
    have hlt := (List.getElem?_eq_some_iff.1 hi).1
    have hget : ∀ j, j < d.length → s[j]? = d[j]? := fun j hj => by
      rcases hdm with ⟨rfl, _⟩ | rfl
      · rfl
      · rw [List.getElem?_append_left hj]
    refine size_bad (j := i) (x := c) (by rw [hget i hlt]; exact hi) (eq_false_of_ne_true hcb) (hno c hcm) fun k y hk hy => ?_
    rw [hget k (by omega)] at hy
    exact hno y (List.mem_of_getElem? hy)
  have none4 : sizeV s = none → AV.tup [.int .i64 0, .int .i64 4] = AV.tup [.int .i64 ((sizeA s).1 : Nat), .int .i64 (sizeA s).2] := fun hv => by
    unfold sizeA
    rw [hv]; rfl
  refine ifP_intro (fun a => none4 ?_) fun a => ifP_intro (fun b => none4 ?_) fun b => ⟨d, hxS, by unfold big at hl; omega, by decide, by decide, rfl, ifP_intro (fun e => none4 ?_) fun e => ?_⟩
  · have hd0 : d = [] := by simpa using a
    subst hd0
    rw [hsz (by simp), if_pos rfl]
  · by_cases ha : d.all hexB = true
    · rw [hsz (List.all_eq_true.1 ha), if_pos (show 8 < d.length by simp only [gt_iff_lt, decide_eq_true_eq] at b; omega)]
      simp
    · exact hbad ha
  · refine hbad fun ha => ?_
    have := (trim_hx d).2 ha
    simp [this] at e
  · have ha : d.all hexB = true := (trim_hx d).1 (by simpa using e)
    have h0 : d ≠ [] := by simpa using a
    have h8 : ¬ 8 < d.length := by simp only [gt_iff_lt, decide_eq_false_iff_not] at b; omega
    have := loop43 (d := d) ⟨h0, by omega, ha⟩ m [] hms
    have ev : (if m.all extB = true then AV.tup [.int .i64 (hexV 0 d : Nat), .int .i64 0] else AV.tup [.int .i64 0, .int .i64 4]) = AV.tup [.int .i64 ((sizeA s).1 : Nat), .int .i64 (sizeA s).2] := by
      unfold sizeA
      rw [hsz (List.all_eq_true.1 ha), if_neg h0, if_neg h8]
      split <;> rfl
    rw [ev] at this
    exact this
end Go.Proofs.YtnncfdlpogjlkaaDoor
end

section
namespace Go.Proofs.YtnncfdlpogjlkaaDoor
open Go.Ai Go
set_option linter.unusedSimpArgs false
set_option linter.unusedVariables false
set_option linter.unnecessarySimpa false
set_option maxRecDepth 100000

theorem hexI_nonneg (c : UInt8) : decide ((if hexB c = true then ((hexD c : Nat) : Int) else -1) ≥ 0) = hexB c := by
  cases h : hexB c with
  | true => rw [if_pos rfl]; exact decide_eq_true (by omega)
  | false => rw [if_neg (by simp)]; rfl
theorem tab46 : TabOk cfg (ctab [(71, hexDC)]) := ctab_ok (ctab_cons c71 ctab_nil)
def sizeI (s : List UInt8) : AV := .int .i64 (sizeN s)
theorem loop46c {N : Nat} {x : Int} (hx : x = N) : ∀ (r pre : List UInt8), (pre ++ r).length ≤ big →
    ToEnd cfg 46 (bodyOf Tryd.f46) (RetIs Tryd.prog Tryd.f46 (.int .i64 (if r.all extB = true then (N : Int) else -1))) [.code [0, 1, 0, 1, 1, 1, 1, 1], .block 2, .code [1, 1, 1, 1, 1, 1]] .normal
      [(0, true, .str (pre ++ r)), (3, true, .int .i64 x), (5, true, .int .i64 pre.length)] [] := by
  subst hx
  intro r
  induction r with
  | nil =>
    intro pre hl
    exact t46c tab46 (ifP_intro (fun a => by simp at a) fun _ => rfl)
  | cons x r ih =>
    intro pre hl
    have hlen : pre.length ≤ big := by simp at hl; omega
    have hin : inR (pre.length : Int) (pre ++ x :: r).length = true := inR_of (by omega) (by simp; omega)
    have next : extB x = true → ToEnd cfg 46 (bodyOf Tryd.f46) (RetIs Tryd.prog Tryd.f46 (.int .i64 (if (x :: r).all extB = true then (N : Int) else -1))) [.code [0, 1, 0, 1, 1, 1, 1, 1], .block 2, .code [1, 1, 1, 1, 1, 1]] .normal
      [(0, true, .str (pre ++ x :: r)), (3, true, .int .i64 N), (5, true, .int .i64 (IntKind.wrap .i64 ((pre.length : Int) + 1)))] [] := fun hb => by
      rw [wrap_b hlen, List.all_cons, hb, Bool.true_and]
      have := ih (pre ++ [x]) (by simpa using hl)
      simpa using this
    have bad : ¬ extB x = true → AV.int .i64 (-1) = AV.int .i64 (if (x :: r).all extB = true then (N : Int) else -1) := fun hb => by
      rw [List.all_cons, eq_false_of_ne_true hb, Bool.false_and, if_neg (by simp)]
    rw [extB_nat] at next bad
    refine t46c tab46 (ifP_intro (fun _ => gAnd_intro hin ?_) fun a => by simp at a; omega)
    rw [at_pre]
    refine ifP_intro (fun b => gAnd_intro hin (ifP_intro (fun e => bad ?_) fun e => gAnd_intro hin (ifP_intro (fun f => bad ?_) fun f => next ?_))) fun b => next ?_ <;>
      simp only [decide_eq_true_eq, decide_eq_false_iff_not, bne_iff_ne, ne_eq, bne_eq_false_iff_eq, beq_iff_eq, beq_eq_false_iff_ne] at * <;> omega
/-- What is done where the digits end. -/
theorem exit46 {r pre : List UInt8} {x : Int} (hx : x = ((hexV 0 pre : Nat) : Int)) (hl : (pre ++ r).length ≤ big) (hp : ∀ c ∈ pre, hexB c = true) (hr : pre.length = 9 ∨ ∀ c t, r = c :: t → hexB c = false) :
    ifP (((pre.length : Nat) : Int) == 0) (AV.int .i64 (-1) = sizeI (pre ++ r)) (ifP (decide (((pre.length : Nat) : Int) > 8)) (AV.int .i64 (-1) = sizeI (pre ++ r)) (ifP (decide (((pre.length : Nat) : Int) < ((pre ++ r).length : Int))) (gAnd (inR ((pre.length : Nat) : Int) (pre ++ r).length) (ifP (((UInt8.toNat (List.getD (pre ++ r) (Int.toNat ((pre.length : Nat) : Int)) 0) : Nat) : Int) != 59) (AV.int .i64 (-1) = sizeI (pre ++ r))
      (ToEnd cfg 46 (bodyOf Tryd.f46) (RetIs Tryd.prog Tryd.f46 (sizeI (pre ++ r))) [.code [0, 1, 0, 1, 1, 1, 1, 1], .block 2, .code [1, 1, 1, 1, 1, 1]] .normal [(0, true, .str (pre ++ r)), (3, true, .int .i64 x), (5, true, .int .i64 (IntKind.wrap .i64 ((pre.length : Int) + 1)))] [])))
      (ToEnd cfg 46 (bodyOf Tryd.f46) (RetIs Tryd.prog Tryd.f46 (sizeI (pre ++ r))) [.code [0, 1, 0, 1, 1, 1, 1, 1], .block 2, .code [1, 1, 1, 1, 1, 1]] .normal [(0, true, .str (pre ++ r)), (3, true, .int .i64 x), (5, true, .int .i64 (IntKind.wrap .i64 ((pre.length : Int) + 1)))] []))) := by
  have none1 : sizeV (pre ++ r) = none → AV.int .i64 (-1) = sizeI (pre ++ r) := fun h => by unfold sizeI sizeN; rw [h]
  have hlen : pre.length ≤ big := by simp at hl; omega
  by_cases h8 : 8 < pre.length
  · have hn : sizeV (pre ++ r) = none := by
      have : 8 < ((pre ++ r).takeWhile hexB).length := by
        have e := List.takeWhile_append (p := hexB) (xs := pre) (ys := r)
        have e1 := (takeWhile_all' (p := hexB) hp).1
        rw [e1, if_pos rfl] at e
        rw [e]
        simp; omega
      unfold sizeV
      split
      · rfl
      · first | rfl | rw [if_pos this]
    refine ifP_intro (fun a => none1 hn) fun _ => ifP_intro (fun _ => none1 hn) fun a => ?_
    simp only [gt_iff_lt, decide_eq_false_iff_not] at a; omega
  · have hr' : ∀ c t, r = c :: t → hexB c = false := by
      rcases hr with h | h
      · omega
      · exact h
    have hs := size_at hp hr'
    refine ifP_intro (fun a => none1 ?_) fun a => ifP_intro (fun b => ?_) fun _ => ?_
    · have : pre = [] := by simpa using a
      rw [hs, if_pos this]
    · simp only [gt_iff_lt, decide_eq_true_eq] at b; omega
    · have h0 : pre ≠ [] := by simpa using a
      rw [if_neg h0, if_neg h8] at hs
      cases r with
      | nil =>
        refine ifP_intro (fun b => by simp at b) fun _ => ?_
        rw [wrap_b hlen]
        have hv : sizeI (pre ++ []) = .int .i64 (hexV 0 pre : Nat) := by unfold sizeI sizeN; rw [hs]
        rw [hv]
        refine t46c tab46 (ifP_intro (fun b => ?_) fun _ => by rw [hx])
        simp at b; omega
      | cons c t =>
        refine ifP_intro (fun _ => gAnd_intro (inR_nat (by simp)) ?_) fun b => by simp at b; omega
        rw [at_pre]
        refine ifP_intro (fun b => none1 ?_) fun b => ?_
        · rw [hs]
          simp only
          rw [if_neg]
          rintro ⟨h, _⟩
          exact unq 59 rfl b h
        · have hc : c = 59 := unq' 59 rfl b
          have hv : sizeI (pre ++ c :: t) = .int .i64 (if t.all extB = true then ((hexV 0 pre : Nat) : Int) else -1) := by
            unfold sizeI sizeN
            by_cases he : t.all extB = true
            · have : sizeV (pre ++ c :: t) = some (hexV 0 pre) := by rw [hs]; simp only; rw [if_pos ⟨hc, he⟩]
              rw [this, if_pos he]
            · have : sizeV (pre ++ c :: t) = none := by rw [hs]; simp only; rw [if_neg (fun h => he h.2)]
              rw [this, if_neg he]
          rw [hv, wrap_b hlen]
          have := loop46c (N := hexV 0 pre) hx t (pre ++ [c]) (by simpa using hl)
          simpa using this
theorem loop46 : ∀ (r pre : List UInt8), (pre ++ r).length ≤ big → (∀ c ∈ pre, hexB c = true) → pre.length ≤ 9 →
    ToEnd cfg 46 (bodyOf Tryd.f46) (RetIs Tryd.prog Tryd.f46 (sizeI (pre ++ r))) [.code [0, 0, 1, 1, 1], .block 0, .code [1, 1, 1, 1]] .normal
      [(0, true, .str (pre ++ r)), (3, true, .int .i64 (hexV 0 pre : Nat)), (4, true, .int .i64 pre.length)] [] := by
  intro r
  induction r with
  | nil =>
    intro pre hl hp h9
    have ex := exit46 (r := []) rfl hl hp (.inr fun c t h => by cases h)
    exact t46b tab46 (ifP_intro (fun a => by simp at a) fun _ => ex)
  | cons x r ih =>
    intro pre hl hp h9
    have hlen : pre.length ≤ big := by unfold big; omega
    have hin : inR (pre.length : Int) (pre ++ x :: r).length = true := inR_of (by omega) (by simp; omega)
    have ex := exit46 (r := x :: r) rfl hl hp
    refine t46b tab46 (ifP_intro (fun _ => gAnd_intro hin ⟨x, by rw [at_pre], ?_⟩) fun a => by simp at a; omega)
    rw [hexI_nonneg]
    refine ifP_intro (fun hx => ifP_intro (fun a => gAnd_intro hin ⟨x, by rw [at_pre], ?_⟩) fun a => ?_) fun hx => ?_
    · have h8 : pre.length ≤ 8 := by simp only [decide_eq_true_eq] at a; omega
      have hv := hexV_pow (s := pre) (k := 8) (List.all_eq_true.2 hp) h8
      have hv : hexV 0 pre < 4294967296 := hv
      have hd := hexD_lt hx
      have e : IntKind.wrap .i64 (IntKind.wrap .i64 (16 * ((hexV 0 pre : Nat) : Int)) + if hexB x = true then ((hexD x : Nat) : Int) else -1) = ((hexV 0 (pre ++ [x]) : Nat) : Int) := by
        rw [if_pos hx, hexV_snoc, wrap_in (n := 16 * ((hexV 0 pre : Nat) : Int)) (by omega) (by omega), wrap_in (by omega) (by omega)]
        omega
      rw [e, wrap_b hlen]
      have := ih (pre ++ [x]) (by simpa using hl) (fun c hc => by
        rcases List.mem_append.1 hc with h | h
        · exact hp c h
        · rw [List.mem_singleton] at h; subst h; exact hx) (by simp; omega)
      simpa using this
    · exact ex (.inl (by simp only [decide_eq_false_iff_not] at a; omega))
    · exact ex (.inr fun c t h => by injection h with h _; subst h; exact hx)
theorem c46 : COk cfg 46 sizeRC := by
  refine cok_pure pf46 fun vs h K ht => ?_
  obtain ⟨s, hl, rfl, hk⟩ := ht
  exact ⟨_, hk, t46a tab46 (loop46 s [] hl (by simp) (by simp))⟩

/-! Where lines end -/
theorem fnd_takeN {x s : List UInt8} {k M : Nat} (h1 : x.isPrefixOf (s.drop k) = true) (h2 : ∀ j, j < k → x.isPrefixOf (s.drop j) = false) (h3 : k + x.length ≤ M) (hx : x ≠ []) : fnd x (s.take M) = some k :=
  fnd_take (fnd_of h1 h2 hx) h3 hx
theorem fnd_takeNo {x s : List UInt8} {M : Nat} (h : ∀ j, j + x.length ≤ M → x.isPrefixOf (s.drop j) = false) (hx : x ≠ []) : fnd x (s.take M) = none :=
  fnd_take_no (fun n hn => by
    rcases Nat.lt_or_ge M (n + x.length) with h1 | h1
    · exact h1
    · have := (fnd_some hn).1; rw [h n h1] at this; cases this) hx
theorem tab45 : TabOk cfg (ctab [(47, endsC)]) := ctab_ok (ctab_cons c47 ctab_nil)
theorem loop45 {s : List UInt8} {n : Nat} (hl : s.length ≤ 1000000) (hn : n ≤ s.length) : ∀ (m i : Nat), i + m = 2049 → (∀ j, j < i → crlf.isPrefixOf ((s.drop n).drop j) = false) →
    ToEnd cfg 45 (bodyOf Tryd.f45) (RetIs Tryd.prog Tryd.f45 (.tup [.int .i64 (headA s n).1, .int .i64 (headA s n).2])) [.code [0, 1, 0, 1], .block 0, .code [1, 1]] .normal
      [(0, true, .str s), (1, true, .int .i64 n), (6, true, .int .i64 (n + i : Nat))] [] := by
  intro m
  induction m with
  | zero =>
    intro i hi hno
    have e1 : IntKind.wrap .i64 ((n : Int) + 2048) = ((n + 2048 : Nat) : Int) := by rw [wrap_in (by omega) (by omega)]; omega
    have e2 : IntKind.wrap .i64 ((s.length : Int) - (n : Int)) = ((s.length - n : Nat) : Int) := by rw [wrap_in (by omega) (by omega)]; omega
    have hf : fnd crlf ((s.drop n).take 2050) = none := fnd_takeNo (fun j hj => hno j (by simp [crlf] at hj; omega)) crlf_ne
    refine t45b tab45 ?_
    rw [e1, e2]
    refine ifP_intro (fun a => by simp only [decide_eq_true_eq] at a; omega) fun _ => ifP_intro (fun a => ?_) fun a => ?_
    · unfold headA
      rw [hf, if_pos (by simp only [ge_iff_le, decide_eq_true_eq] at a; rw [List.length_drop]; omega)]; rfl
    · unfold headA
      rw [hf, if_neg (by simp only [ge_iff_le, decide_eq_false_iff_not] at a; rw [List.length_drop]; omega)]; rfl
  | succ m ih =>
    intro i hi hno
    have e1 : IntKind.wrap .i64 ((n : Int) + 2048) = ((n + 2048 : Nat) : Int) := by rw [wrap_in (by omega) (by omega)]; omega
    have e3 : IntKind.wrap .i64 (((n + i : Nat) : Int) + 1) = ((n + (i + 1) : Nat) : Int) := by rw [wrap_in (by omega) (by omega)]; omega
    refine t45b tab45 ?_
    rw [e1, e3]
    refine ifP_intro (fun _ => ⟨s, n + i, by omega, by omega, rfl, ifP_intro (fun b => ?_) fun b => ?_⟩) fun a => by simp only [decide_eq_false_iff_not] at a; omega
    · have hb : crlf.isPrefixOf ((s.drop n).drop i) = true := by rw [List.drop_drop]; exact b
      unfold headA
      rw [fnd_takeN hb hno (by simp [crlf]; omega) crlf_ne]
    · have hb : crlf.isPrefixOf ((s.drop n).drop i) = false := by rw [List.drop_drop]; exact b
      exact ih (i + 1) (by omega) fun j hj => by
        rcases Nat.lt_or_ge j i with h | h
        · exact hno j h
        · have : j = i := by omega
          subst this; exact hb
end Go.Proofs.YtnncfdlpogjlkaaDoor
namespace Go.Ai
def headC' : Con := fun vs h K => ∃ (s : List UInt8) (n : Nat), s.length ≤ 1000000 ∧ n ≤ s.length ∧ vs = [.str s, .int .i64 n] ∧ K (.tup [.int .i64 (headA s n).1, .int .i64 (headA s n).2]) h
def tailC' : Con := fun vs h K => ∃ (s : List UInt8) (n : Nat), s.length ≤ 1000000 ∧ n ≤ s.length ∧ vs = [.str s, .int .i64 n] ∧ K (.tup [.int .i64 (tailA s n).1, .int .i64 (tailA s n).2]) h
end Go.Ai
namespace Go.Proofs.YtnncfdlpogjlkaaDoor
open Go.Ai Go
set_option linter.unusedSimpArgs false
set_option linter.unusedVariables false
set_option linter.unnecessarySimpa false
set_option maxRecDepth 100000
theorem c45 : COk cfg 45 headC' := by
  refine cok_pure pf45 fun vs h K ht => ?_
  obtain ⟨s, n, hl, hn, rfl, hk⟩ := ht
  exact ⟨_, hk, t45a tab45 (loop45 hl hn 2049 0 (by omega) (fun j h => by omega))⟩
theorem crlf2_at {s : List UInt8} {n : Nat} : crlf2.isPrefixOf (s.drop n) = (endsB s n && endsB s (n + 2)) := by
  unfold endsB
  rw [Bool.eq_iff_iff, Bool.and_eq_true, ← List.drop_drop]
  generalize s.drop n = t
  match t with
  | [] => simp [crlf, crlf2]
  | [a] => simp [crlf, crlf2]
  | a :: b :: t =>
    simp only [crlf, crlf2, List.isPrefixOf, Bool.and_eq_true, beq_iff_eq, List.drop_succ_cons, List.drop_zero]
    constructor
    · rintro ⟨h1, h2, h3⟩; exact ⟨⟨h1, h2, trivial⟩, h3⟩
    · rintro ⟨⟨h1, h2, _⟩, h3⟩; exact ⟨h1, h2, h3⟩
theorem loop48 {s : List UInt8} {n : Nat} (hl : s.length ≤ 1000000) (hn : n ≤ s.length) (h0 : endsB s n = false) : ∀ (m i : Nat), i + m = 8189 → (∀ j, j < i → crlf2.isPrefixOf ((s.drop n).drop j) = false) →
    ToEnd cfg 48 (bodyOf Tryd.f48) (RetIs Tryd.prog Tryd.f48 (.tup [.int .i64 (tailA s n).1, .int .i64 (tailA s n).2])) [.code [0, 1, 0, 1, 1], .block 0, .code [1, 1, 1]] .normal
      [(0, true, .str s), (1, true, .int .i64 n), (6, true, .int .i64 (n + i : Nat))] [] := by
  have ht : tailA s n = match fnd crlf2 ((s.drop n).take 8192) with | some i => (n + i + 4, 0) | none => (0, if 8192 ≤ (s.drop n).length then 3 else 6) := by
    unfold tailA
    rw [if_neg (by rw [h0]; simp)]
    cases fnd crlf2 ((s.drop n).take 8192) <;> rfl
  intro m
  induction m with
  | zero =>
    intro i hi hno
    have e1 : IntKind.wrap .i64 ((n : Int) + 8192) = ((n + 8192 : Nat) : Int) := by rw [wrap_in (by omega) (by omega)]; omega
    have e2 : IntKind.wrap .i64 ((s.length : Int) - (n : Int)) = ((s.length - n : Nat) : Int) := by rw [wrap_in (by omega) (by omega)]; omega
    have e4 : IntKind.wrap .i64 (((n + i : Nat) : Int) + 4) = ((n + i + 4 : Nat) : Int) := by rw [wrap_in (by omega) (by omega)]; omega
    have hf : fnd crlf2 ((s.drop n).take 8192) = none := fnd_takeNo (fun j hj => hno j (by simp [crlf2] at hj; omega)) crlf2_ne
    refine t48b tab45 ?_
    rw [e1, e2, e4]
    refine ifP_intro (fun a => by simp only [decide_eq_true_eq] at a; omega) fun _ => ifP_intro (fun a => ?_) fun a => ?_
    · rw [ht, hf, if_pos (by simp only [ge_iff_le, decide_eq_true_eq] at a; rw [List.length_drop]; omega)]; rfl
    · rw [ht, hf, if_neg (by simp only [ge_iff_le, decide_eq_false_iff_not] at a; rw [List.length_drop]; omega)]; rfl
  | succ m ih =>
    intro i hi hno
    have e1 : IntKind.wrap .i64 ((n : Int) + 8192) = ((n + 8192 : Nat) : Int) := by rw [wrap_in (by omega) (by omega)]; omega
    have e3 : IntKind.wrap .i64 (((n + i : Nat) : Int) + 1) = ((n + (i + 1) : Nat) : Int) := by rw [wrap_in (by omega) (by omega)]; omega
    have e4 : IntKind.wrap .i64 (((n + i : Nat) : Int) + 4) = ((n + i + 4 : Nat) : Int) := by rw [wrap_in (by omega) (by omega)]; omega
    have e5 : IntKind.wrap .i64 (((n + i : Nat) : Int) + 2) = ((n + i + 2 : Nat) : Int) := by rw [wrap_in (by omega) (by omega)]; omega
    have hat : crlf2.isPrefixOf ((s.drop n).drop i) = (endsB s (n + i) && endsB s (n + i + 2)) := by rw [List.drop_drop]; exact crlf2_at
    have next : crlf2.isPrefixOf ((s.drop n).drop i) = false → _ := fun hb => ih (i + 1) (by omega) fun j hj => by
        rcases Nat.lt_or_ge j i with h | h
        · exact hno j h
        · have : j = i := by omega
          subst this; exact hb
    refine t48b tab45 ?_
    rw [e1, e3, e4, e5]
    refine ifP_intro (fun _ => ⟨s, n + i, by omega, by omega, rfl, ifP_intro (fun b => ⟨s, n + i + 2, by omega, by omega, rfl, ifP_intro (fun c => ?_) fun c => ?_⟩) fun b => ?_⟩) fun a => by simp only [decide_eq_false_iff_not] at a; omega
    · rw [ht, fnd_takeN (by rw [hat, b, c]; rfl) hno (by simp [crlf2]; omega) crlf2_ne]
    · exact next (by rw [hat, c, Bool.and_false])
    · exact next (by rw [hat, b, Bool.false_and])
theorem c48 : COk cfg 48 tailC' := by
  refine cok_pure pf48 fun vs h K ht => ?_
  obtain ⟨s, n, hl, hn, rfl, hk⟩ := ht
  have e5 : IntKind.wrap .i64 ((n : Int) + 2) = ((n + 2 : Nat) : Int) := by rw [wrap_in (by omega) (by omega)]; omega
  refine ⟨_, hk, t48a tab45 ⟨s, n, by omega, by omega, rfl, ifP_intro (fun b => ?_) fun b => ?_⟩⟩
  · unfold tailA
    rw [if_pos b, e5]
  · exact loop48 hl hn b 8189 0 (by omega) (fun j h => by omega)

/-! Digits put -/
theorem hexS_more : ∀ (f n : Nat), 0 < f → hexS (f + 1) n = if n < 16 then [hexC n] else hexS f (n / 16) ++ [hexC (n % 16)] := fun f n _ => by rw [hexS]
theorem hexS_fuel : ∀ (f g n : Nat), n < 16 ^ f → n < 16 ^ g → 0 < f → 0 < g → hexS f n = hexS g n
  | 0, g, n, _, _, h, _ => by omega
  | f + 1, 0, n, _, _, _, h => by omega
  | f + 1, g + 1, n, h1, h2, _, _ => by
    rw [hexS, hexS]
    split
    · rfl
    · rename_i hn
      have a1 : n / 16 < 16 ^ f := by rw [Nat.pow_succ] at h1; omega
      have a2 : n / 16 < 16 ^ g := by rw [Nat.pow_succ] at h2; omega
      have hf : 0 < f := by
        cases f with
        | zero => simp at h1; omega
        | succ f => omega
      have hg : 0 < g := by
        cases g with
        | zero => simp at h2; omega
        | succ f => omega
      rw [hexS_fuel f g _ a1 a2 hf hg]
theorem hexT_eq {n : Nat} (h : n < 16 ^ 16) : hexT n = if n < 16 then [hexC n] else hexT (n / 16) ++ [hexC (n % 16)] := by
  unfold hexT
  rw [show (17 : Nat) = 16 + 1 by rfl, hexS]
  split
  · rfl
  · rw [hexS_fuel 16 (16 + 1) (n / 16) (by have : 16 ^ 16 ≤ 16 ^ 16 := Nat.le_refl _; omega) (Nat.lt_of_lt_of_le (Nat.lt_of_le_of_lt (Nat.div_le_self _ _) h) (Nat.pow_le_pow_right (by omega) (by omega))) (by omega) (by omega)]
def dgL : List UInt8 := [48, 49, 50, 51, 52, 53, 54, 55, 56, 57, 97, 98, 99, 100, 101, 102]
theorem dgL_at {n : Nat} (h : n < 16) : List.getD dgL n 0 = hexC n := by
  have : ∀ n, n < 16 → List.getD dgL n 0 = hexC n := by decide
  exact this n h
theorem loop51 : ∀ (m n : Nat) (acc : List UInt8), n < m → n ≤ lim → acc.length ≤ 1000 - n / 1000000000 → acc.length + (hexT n).length ≤ 100 →
    ToEnd cfg 51 (bodyOf Tryd.f51) (RetIs Tryd.prog Tryd.f51 (.str (hexT n ++ acc))) [.code [0, 1, 1], .block 0] .normal [(0, true, .int .i64 n), (3, true, .str acc)] [] := by
  intro m
  induction m with
  | zero =>
    intro n acc hm hn _ hl
    omega
  | succ m ih =>
    intro n acc hm hn _ hl
    have hn' : n ≤ 10000000 := hn
    have e1 : Int.tmod ((n : Nat) : Int) 16 = ((n % 16 : Nat) : Int) := by rw [Int.tmod_eq_emod_of_nonneg (by omega)]; rfl
    have e2 : IntKind.wrap .i64 (Int.tdiv ((n : Nat) : Int) 16) = ((n / 16 : Nat) : Int) := by rw [Int.tdiv_eq_ediv_of_nonneg (by omega), wrap_in (by omega) (by omega)]; rfl
    have e3 : List.getD dgL (Int.toNat ((n % 16 : Nat) : Int)) 0 = hexC (n % 16) := by rw [Int.toNat_natCast]; exact dgL_at (Nat.mod_lt _ (by omega))
    have hT := hexT_eq (n := n) (by omega)
    refine t51b (ctab_ok ctab_nil) ?_
    rw [e1, e2]
    refine gAnd_intro (inR_nat (Nat.mod_lt _ (by omega))) ?_
    have e3' : List.getD [48, 49, 50, 51, 52, 53, 54, 55, 56, 57, 97, 98, 99, 100, 101, 102] (Int.toNat ((n % 16 : Nat) : Int)) 0 = hexC (n % 16) := e3
    rw [e3']
    refine gAnd_intro (rowsB_rb [hexC (n % 16)]) (gAnd_intro (decide_eq_true (by omega)) ?_)
    have e4 : rowV [AV.int .u8 ((UInt8.toNat (hexC (n % 16)) : Nat) : Int)] = hexC (n % 16) := cellV_b _
    rw [e4]
    refine ifP_intro (fun a => ?_) fun a => ?_
    · have hz : n / 16 = 0 := by
        have : ((n / 16 : Nat) : Int) = 0 := by rw [beq_iff_eq] at a; exact a
        omega
      rw [hT, if_pos (by omega), Nat.mod_eq_of_lt (by omega)]; rfl
    · have hz : n / 16 ≠ 0 := by
        have : ((n / 16 : Nat) : Int) ≠ 0 := by rw [beq_eq_false_iff_ne] at a; exact a
        omega
      rw [if_neg (by omega)] at hT
      have := ih (n / 16) (hexC (n % 16) :: acc) (by omega) (by unfold lim; omega) (by simp; omega) (by rw [hT] at hl; simp at hl ⊢; omega)
      rw [hT]
      simpa using this
theorem c51 : COk cfg 51 hexTC := by
  refine cok_pure pf51 fun vs h K ht => ?_
  obtain ⟨n, hn, rfl, hk⟩ := ht
  have hn' : n ≤ 10000000 := hn
  have hl := hexS_len 17 n 8 (by omega) (by omega)
  have := loop51 (n + 1) n [] (Nat.lt_succ_self _) hn (by simp) (by unfold hexT; simp; omega)
  rw [List.append_nil] at this
  exact ⟨_, hk, t51a (ctab_ok ctab_nil) this⟩
end Go.Proofs.YtnncfdlpogjlkaaDoor
end
