/-
  Runs of functions of bodies in chunks, printed by a home tool; each is the kernel's word.
  Tokens, values, fields out of their lines: the functions keep to their contracts.
  Fields out of their lines, hexadecimal digits, ends of lines: the functions keep to their contracts.
  Sizes of chunks, where lines end, hexadecimal digits put: the functions keep to their contracts.
  The document's sizes of chunks, where its lines end, its digits: the functions keep to their contracts.
  A body out of its chunks: the function keeps to its contract.
  A body out of its chunks, as the document says: the function keeps to its contract.
-/
import Derived.Test.YtnncfdlpogjlkaaGreatDoorLCfg
import Derived.Test.YtnncfdlpogjlkaaGreatDoorLJZa
import Derived.Test.YtnncfdlpogjlkaaGreatDoorLJZb
set_option linter.unusedVariables false
set_option linter.unusedSimpArgs false
set_option linter.unnecessarySimpa false
section
namespace Go.Proofs.YtnncfdlpogjlkaaGreatDoor
open Go.Ai Go
set_option maxRecDepth 100000
open Go.IntKind (wrap i64 u8)
open Go.Ai.AV (int str sl tup bool agg ptr)
open Go.Ai.Blk (mem grow)
open Go.Ai.Fm (code block loop)
open Go.Ai.XT (normal)
open List (length)
open Prod (fst snd)
open UInt8 (toNat)
open Tryz (prog f40 f63 f75 f77 f81 f84 f108 f114 f118 f119 f123 f125 f126 f128 f129 f136 f156 f160 f191)
theorem t125 {v : AV} {c : Int} (hT : TabOk cfg (ctab [])) (H : ifP (decide (c ≥ 65)) (ifP (decide (c ≤ 90)) (bool true = v) (ifP (decide (c ≥ 97)) (ifP (decide (c ≤ 122)) (bool true = v) (ifP (decide (c ≥ 48)) (bool (decide (c ≤ 57)) = v) (bool false = v))) (ifP (decide (c ≥ 48)) (bool (decide (c ≤ 57)) = v) (bool false = v)))) (ifP (decide (c ≥ 97)) (ifP (decide (c ≤ 122)) (bool true = v) (ifP (decide (c ≥ 48)) (bool (decide (c ≤ 57)) = v) (bool false = v))) (ifP (decide (c ≥ 48)) (bool (decide (c ≤ 57)) = v) (bool false = v)))) : ToEnd cfg 125 (bodyOf f125) (RetIs prog f125 v) ([.code []]) .normal ([(0, true, .int .u8 c)]) ([]) := by
  exact unr_ok (pl := ⟨[], []⟩) hT 100000 _ _ _ _ (unr_use H (by kernel_rfl))
theorem t114 {v : AV} {c : Int} (hT : TabOk cfg (ctab [(153, ixC)])) (H : ifP (decide (c ≥ 97)) (ifP (decide (c ≤ 122)) (bool true = v) (ifP (decide (c ≥ 65)) (ifP (decide (c ≤ 90)) (bool true = v) (ifP (decide (c ≥ 48)) (ifP (decide (c ≤ 57)) (bool true = v) (∃ (s1 : List UInt8) (c2 : UInt8), [str [33, 35, 36, 37, 38, 39, 42, 43, 45, 46, 94, 95, 96, 124, 126], int u8 c] = [str s1, int u8 (↑(toNat c2) : Int)] ∧ bool (decide (Lib.indexByte s1 c2 ≥ 0)) = v)) (∃ (s3 : List UInt8) (c4 : UInt8), [str [33, 35, 36, 37, 38, 39, 42, 43, 45, 46, 94, 95, 96, 124, 126], int u8 c] = [str s3, int u8 (↑(toNat c4) : Int)] ∧ bool (decide (Lib.indexByte s3 c4 ≥ 0)) = v))) (ifP (decide (c ≥ 48)) (ifP (decide (c ≤ 57)) (bool true = v) (∃ (s5 : List UInt8) (c6 : UInt8), [str [33, 35, 36, 37, 38, 39, 42, 43, 45, 46, 94, 95, 96, 124, 126], int u8 c] = [str s5, int u8 (↑(toNat c6) : Int)] ∧ bool (decide (Lib.indexByte s5 c6 ≥ 0)) = v)) (∃ (s7 : List UInt8) (c8 : UInt8), [str [33, 35, 36, 37, 38, 39, 42, 43, 45, 46, 94, 95, 96, 124, 126], int u8 c] = [str s7, int u8 (↑(toNat c8) : Int)] ∧ bool (decide (Lib.indexByte s7 c8 ≥ 0)) = v)))) (ifP (decide (c ≥ 65)) (ifP (decide (c ≤ 90)) (bool true = v) (ifP (decide (c ≥ 48)) (ifP (decide (c ≤ 57)) (bool true = v) (∃ (s9 : List UInt8) (c10 : UInt8), [str [33, 35, 36, 37, 38, 39, 42, 43, 45, 46, 94, 95, 96, 124, 126], int u8 c] = [str s9, int u8 (↑(toNat c10) : Int)] ∧ bool (decide (Lib.indexByte s9 c10 ≥ 0)) = v)) (∃ (s11 : List UInt8) (c12 : UInt8), [str [33, 35, 36, 37, 38, 39, 42, 43, 45, 46, 94, 95, 96, 124, 126], int u8 c] = [str s11, int u8 (↑(toNat c12) : Int)] ∧ bool (decide (Lib.indexByte s11 c12 ≥ 0)) = v))) (ifP (decide (c ≥ 48)) (ifP (decide (c ≤ 57)) (bool true = v) (∃ (s13 : List UInt8) (c14 : UInt8), [str [33, 35, 36, 37, 38, 39, 42, 43, 45, 46, 94, 95, 96, 124, 126], int u8 c] = [str s13, int u8 (↑(toNat c14) : Int)] ∧ bool (decide (Lib.indexByte s13 c14 ≥ 0)) = v)) (∃ (s15 : List UInt8) (c16 : UInt8), [str [33, 35, 36, 37, 38, 39, 42, 43, 45, 46, 94, 95, 96, 124, 126], int u8 c] = [str s15, int u8 (↑(toNat c16) : Int)] ∧ bool (decide (Lib.indexByte s15 c16 ≥ 0)) = v)))) : ToEnd cfg 114 (bodyOf f114) (RetIs prog f114 v) ([.code []]) .normal ([(0, true, .int .u8 c)]) ([]) := by
  exact unr_ok (pl := ⟨[], []⟩) hT 100000 _ _ _ _ (unr_use H (by kernel_rfl))
theorem t126a {v : AV} {c : Int} {s : List UInt8} (hT : TabOk cfg (ctab [])) (H : ToEnd cfg 126 (bodyOf f126) (RetIs prog f126 v) [code [0, 1, 0, 1], block 0, code [1, 1]] normal [(0, true, int u8 c), (1, true, str s), (5, true, int i64 0)] []) : ToEnd cfg 126 (bodyOf f126) (RetIs prog f126 v) ([.code []]) .normal ([(0, true, .int .u8 c), (1, true, .str s)]) ([]) := by
  exact unr_ok (pl := ⟨[[0, 1, 0, 1]], []⟩) hT 100000 _ _ _ _ (unr_use H (by kernel_rfl))
theorem t75a {v : AV} {s : List UInt8} (hT : TabOk cfg (ctab [(114, byteC wordB)])) (H : ToEnd cfg 75 (bodyOf f75) (RetIs prog f75 v) [code [0, 1, 0, 1], block 0, code [1, 1]] normal [(0, true, str s), (5, true, int i64 (↑(length s) : Int)), (6, true, int i64 0)] []) : ToEnd cfg 75 (bodyOf f75) (RetIs prog f75 v) ([.code []]) .normal ([(0, true, .str s)]) ([]) := by
  exact unr_ok (pl := ⟨[[0, 1, 0, 1]], []⟩) hT 100000 _ _ _ _ (unr_use H (by kernel_rfl))
theorem t81a {v : AV} {s : List UInt8} (hT : TabOk cfg (ctab [(125, byteC letterB), (126, inC)])) (H : ToEnd cfg 81 (bodyOf f81) (RetIs prog f81 v) [code [0, 1, 0, 1], block 0, code [1, 1]] normal [(0, true, str s), (3, true, int i64 0)] []) : ToEnd cfg 81 (bodyOf f81) (RetIs prog f81 v) ([.code []]) .normal ([(0, true, .str s)]) ([]) := by
  exact unr_ok (pl := ⟨[[0, 1, 0, 1]], []⟩) hT 100000 _ _ _ _ (unr_use H (by kernel_rfl))
theorem t126b {v : AV}   {i0 : Int} {s1 : List UInt8} {i5 : Int} (hT : TabOk cfg (ctab [])) (H : ifP (decide (i5 < (↑(length s1) : Int))) (gAnd (inR i5 (length s1)) (ifP ((↑(toNat (List.getD s1 (Int.toNat i5) 0)) : Int) == i0) (bool true = v) (ToEnd cfg 126 (bodyOf f126) (RetIs prog f126 v) [code [0, 1, 0, 1], block 0, code [1, 1]] normal [(0, true, int u8 i0), (1, true, str s1), (5, true, int i64 (wrap i64 (i5 + 1)))] []))) (bool false = v)) : ToEnd cfg 126 (bodyOf f126) (RetIs prog f126 v) ([.code [0, 1, 0, 1], block 0, code [1, 1]]) .normal ([(0, true, int u8 i0), (1, true, str s1), (5, true, int i64 i5)]) ([]) := by
  exact ends_round (pl := ⟨[[0, 1, 0, 1]], []⟩) hT 100000 (by kernel_rfl) (unr_use H (by kernel_rfl))
theorem t75b {v : AV}  {s0 : List UInt8} {i5 : Int} {i6 : Int} (hT : TabOk cfg (ctab [(114, byteC wordB)])) (H : ifP (decide (i6 < i5)) (gAnd (inR i6 (length s0)) (∃ (c1 : UInt8), [int u8 (↑(toNat (List.getD s0 (Int.toNat i6) 0)) : Int)] = [int u8 (↑(toNat c1) : Int)] ∧ ifP (!wordB c1) (bool false = v) (ToEnd cfg 75 (bodyOf f75) (RetIs prog f75 v) [code [0, 1, 0, 1], block 0, code [1, 1]] normal [(0, true, str s0), (5, true, int i64 i5), (6, true, int i64 (wrap i64 (i6 + 1)))] []))) ((bool !s0 == []) = v)) : ToEnd cfg 75 (bodyOf f75) (RetIs prog f75 v) ([.code [0, 1, 0, 1], block 0, code [1, 1]]) .normal ([(0, true, str s0), (5, true, int i64 i5), (6, true, int i64 i6)]) ([]) := by
  exact ends_round (pl := ⟨[[0, 1, 0, 1]], []⟩) hT 100000 (by kernel_rfl) (unr_use H (by kernel_rfl))
theorem t81b {v : AV}  {s0 : List UInt8} {i3 : Int} (hT : TabOk cfg (ctab [(125, byteC letterB), (126, inC)])) (H : ifP (decide (i3 < (↑(length s0) : Int))) (gAnd (inR i3 (length s0)) (∃ (c1 : UInt8), [int u8 (↑(toNat (List.getD s0 (Int.toNat i3) 0)) : Int)] = [int u8 (↑(toNat c1) : Int)] ∧ ifP (!letterB c1) (gAnd (inR i3 (length s0)) (∃ (c2 : UInt8) (s3 : List UInt8), length s3 ≤ 100000 ∧ [int u8 (↑(toNat (List.getD s0 (Int.toNat i3) 0)) : Int), str [33, 35, 36, 37, 38, 39, 42, 43, 45, 46, 94, 95, 96, 124, 126]] = [int u8 (↑(toNat c2) : Int), str s3] ∧ ifP (!List.contains s3 c2) (bool false = v) (ToEnd cfg 81 (bodyOf f81) (RetIs prog f81 v) [code [0, 1, 0, 1], block 0, code [1, 1]] normal [(0, true, str s0), (3, true, int i64 (wrap i64 (i3 + 1)))] []))) (ToEnd cfg 81 (bodyOf f81) (RetIs prog f81 v) [code [0, 1, 0, 1], block 0, code [1, 1]] normal [(0, true, str s0), (3, true, int i64 (wrap i64 (i3 + 1)))] []))) (bool (decide ((↑(length s0) : Int) > 0)) = v)) : ToEnd cfg 81 (bodyOf f81) (RetIs prog f81 v) ([.code [0, 1, 0, 1], block 0, code [1, 1]]) .normal ([(0, true, str s0), (3, true, int i64 i3)]) ([]) := by
  exact ends_round (pl := ⟨[[0, 1, 0, 1]], []⟩) hT 100000 (by kernel_rfl) (unr_use H (by kernel_rfl))
theorem t108 {v : AV} {s x : List UInt8} (hT : TabOk cfg (ctab [])) (H : ifP (decide ((↑(length s) : Int) ≥ (↑(length x) : Int))) (gAnd (cutOb (length s) none (some (↑(length x) : Int))) (bool (cutL s none (some (↑(length x) : Int)) == x) = v)) (bool false = v)) : ToEnd cfg 108 (bodyOf f108) (RetIs prog f108 v) ([.code []]) .normal ([(0, true, .str s), (1, true, .str x)]) ([]) := by
  exact unr_ok (pl := ⟨[], []⟩) hT 100000 _ _ _ _ (unr_use H (by kernel_rfl))
theorem t63 {v : AV} {s x : List UInt8} (hT : TabOk cfg (ctab [(108, prefC)])) (H : ∃ (s1 : List UInt8) (x2 : List UInt8), [str s, str x] = [str s1, str x2] ∧ bool (List.isPrefixOf x2 s1) = v) : ToEnd cfg 63 (bodyOf f63) (RetIs prog f63 v) ([.code []]) .normal ([(0, true, .str s), (1, true, .str x)]) ([]) := by
  exact unr_ok (pl := ⟨[], []⟩) hT 100000 _ _ _ _ (unr_use H (by kernel_rfl))
theorem t123 {v : AV} {s en : List UInt8} {n : Int} (hT : TabOk cfg (ctab [(69, ixSC)])) (H : gAnd (cutOb (length s) none (some (min (↑(length s) : Int) n))) (∃ (s1 : List UInt8) (x2 : List UInt8), length s1 ≤ 10000000 ∧ [str (cutL s none (some (min (↑(length s) : Int) n))), str en] = [str s1, str x2] ∧ ifP (decide (idxB s1 x2 0 ≥ 0)) (gAnd (cutOb (length s) none (some (idxB s1 x2 0))) (tup [str (cutL s none (some (idxB s1 x2 0))), int i64 (wrap i64 (idxB s1 x2 0 + (↑(length en) : Int))), int i64 0] = v)) (ifP (decide ((↑(length s) : Int) ≥ n)) (tup [str [], int i64 0, int i64 3] = v) (tup [str [], int i64 0, int i64 6] = v)))) : ToEnd cfg 123 (bodyOf f123) (RetIs prog f123 v) ([.code []]) .normal ([(0, true, .str s), (1, true, .str en), (2, true, .int .i64 n)]) ([]) := by
  exact unr_ok (pl := ⟨[], []⟩) hT 100000 _ _ _ _ (unr_use H (by kernel_rfl))
theorem t156a {v : AV} {s : List UInt8} (hT : TabOk cfg (ctab [(117, trimC)])) (H : ToEnd cfg 156 (bodyOf f156) (RetIs prog f156 v) [code [0, 1, 0, 1], block 0, code [1, 1]] normal [(0, true, str s), (6, true, int i64 (↑(length s) : Int)), (7, true, int i64 0)] []) : ToEnd cfg 156 (bodyOf f156) (RetIs prog f156 v) ([.code []]) .normal ([(0, true, .str s)]) ([]) := by
  exact unr_ok (pl := ⟨[[0, 1, 0, 1]], []⟩) hT 100000 _ _ _ _ (unr_use H (by kernel_rfl))
theorem t156b {v : AV}  {s0 : List UInt8} {i6 : Int} {i7 : Int} (hT : TabOk cfg (ctab [(117, trimC)])) (H : ifP (decide (i7 < i6)) (gAnd (inR i7 (length s0)) (ifP (decide ((↑(toNat (List.getD s0 (Int.toNat i7) 0)) : Int) < 32)) (ifP ((↑(toNat (List.getD s0 (Int.toNat i7) 0)) : Int) != 9) (bool false = v) (ifP ((↑(toNat (List.getD s0 (Int.toNat i7) 0)) : Int) == 127) (bool false = v) (ToEnd cfg 156 (bodyOf f156) (RetIs prog f156 v) [code [0, 1, 0, 1], block 0, code [1, 1]] normal [(0, true, str s0), (6, true, int i64 i6), (7, true, int i64 (wrap i64 (i7 + 1)))] []))) (ifP ((↑(toNat (List.getD s0 (Int.toNat i7) 0)) : Int) == 127) (bool false = v) (ToEnd cfg 156 (bodyOf f156) (RetIs prog f156 v) [code [0, 1, 0, 1], block 0, code [1, 1]] normal [(0, true, str s0), (6, true, int i64 i6), (7, true, int i64 (wrap i64 (i7 + 1)))] [])))) (∃ (s1 : List UInt8), length s1 ≤ 10000000 ∧ [str s0] = [str s1] ∧ bool (trB s1 == s0) = v)) : ToEnd cfg 156 (bodyOf f156) (RetIs prog f156 v) ([.code [0, 1, 0, 1], block 0, code [1, 1]]) .normal ([(0, true, str s0), (6, true, int i64 i6), (7, true, int i64 i7)]) ([]) := by
  exact ends_round (pl := ⟨[[0, 1, 0, 1]], []⟩) hT 100000 (by kernel_rfl) (unr_use H (by kernel_rfl))
theorem t118 {v : AV} {a b : List UInt8} (hT : TabOk cfg (ctab [(75, strC tokenB), (156, strC valS)])) (H : ∃ (s1 : List UInt8), length s1 ≤ 100000 ∧ [str a] = [str s1] ∧ ifP (tokenB s1) (∃ (s2 : List UInt8), length s2 ≤ 100000 ∧ [str b] = [str s2] ∧ bool (valS s2) = v) (bool false = v)) : ToEnd cfg 118 (bodyOf f118) (RetIs prog f118 v) ([.code []]) .normal ([(0, true, .agg [.str a, .str b])]) ([]) := by
  exact unr_ok (pl := ⟨[], []⟩) hT 100000 _ _ _ _ (unr_use H (by kernel_rfl))
theorem t119 {v : AV} {a b : List UInt8} (hT : TabOk cfg (ctab [])) (H : gAnd (decide (length a + 2 ≤ 9223372036854775807)) (gAnd (decide (length (a ++ [58, 32]) + length b ≤ 9223372036854775807)) (str (a ++ [58, 32] ++ b) = v))) : ToEnd cfg 119 (bodyOf f119) (RetIs prog f119 v) ([.code []]) .normal ([(0, true, .agg [.str a, .str b])]) ([]) := by
  exact unr_ok (pl := ⟨[], []⟩) hT 100000 _ _ _ _ (unr_use H (by kernel_rfl))
theorem t128a {v : AV} {a b : List UInt8} (hT : TabOk cfg (ctab [(81, strC tokenB)])) (H : ToEnd cfg 128 (bodyOf f128) (RetIs prog f128 v) [code [0, 1, 0, 1, 1], block 0, code [1, 1, 1]] normal [(1, true, ptr 0 0), (3, true, str b), (4, true, int i64 0)] [mem 63 [str a, str b]]) : ToEnd cfg 128 (bodyOf f128) (RetIs prog f128 v) ([.code []]) .normal ([(0, true, .agg [.str a, .str b])]) ([]) := by
  exact unr_ok (pl := ⟨[[0, 1, 0, 1, 1]], []⟩) hT 100000 _ _ _ _ (unr_use H (by kernel_rfl))
theorem t128b {v : AV} {a b : List UInt8} {s3 : List UInt8} {i4 : Int} (hT : TabOk cfg (ctab [(81, strC tokenB)])) (H : ifP (decide (i4 < (↑(length s3) : Int))) (gAnd (inR i4 (length s3)) (ifP ((↑(toNat (List.getD s3 (Int.toNat i4) 0)) : Int) == 127) (bool false = v) (gAnd (inR i4 (length s3)) (ifP (decide ((↑(toNat (List.getD s3 (Int.toNat i4) 0)) : Int) < 32)) (gAnd (inR i4 (length s3)) (ifP ((↑(toNat (List.getD s3 (Int.toNat i4) 0)) : Int) != 9) (bool false = v) (ifP (i4 == 0) (gAnd (inR i4 (length s3)) (ifP ((↑(toNat (List.getD s3 (Int.toNat i4) 0)) : Int) == 32) (bool false = v) (gAnd (inR i4 (length s3)) (ifP ((↑(toNat (List.getD s3 (Int.toNat i4) 0)) : Int) == 9) (bool false = v) (ToEnd cfg 128 (bodyOf f128) (RetIs prog f128 v) [code [0, 1, 0, 1, 1], block 0, code [1, 1, 1]] normal [(1, true, ptr 0 0), (3, true, str s3), (4, true, int i64 (wrap i64 (i4 + 1)))] [mem 63 [str a, str b]]))))) (ifP (i4 == wrap i64 ((↑(length s3) : Int) - 1)) (gAnd (inR i4 (length s3)) (ifP ((↑(toNat (List.getD s3 (Int.toNat i4) 0)) : Int) == 32) (bool false = v) (gAnd (inR i4 (length s3)) (ifP ((↑(toNat (List.getD s3 (Int.toNat i4) 0)) : Int) == 9) (bool false = v) (ToEnd cfg 128 (bodyOf f128) (RetIs prog f128 v) [code [0, 1, 0, 1, 1], block 0, code [1, 1, 1]] normal [(1, true, ptr 0 0), (3, true, str s3), (4, true, int i64 (wrap i64 (i4 + 1)))] [mem 63 [str a, str b]]))))) (ToEnd cfg 128 (bodyOf f128) (RetIs prog f128 v) [code [0, 1, 0, 1, 1], block 0, code [1, 1, 1]] normal [(1, true, ptr 0 0), (3, true, str s3), (4, true, int i64 (wrap i64 (i4 + 1)))] [mem 63 [str a, str b]]))))) (ifP (i4 == 0) (gAnd (inR i4 (length s3)) (ifP ((↑(toNat (List.getD s3 (Int.toNat i4) 0)) : Int) == 32) (bool false = v) (gAnd (inR i4 (length s3)) (ifP ((↑(toNat (List.getD s3 (Int.toNat i4) 0)) : Int) == 9) (bool false = v) (ToEnd cfg 128 (bodyOf f128) (RetIs prog f128 v) [code [0, 1, 0, 1, 1], block 0, code [1, 1, 1]] normal [(1, true, ptr 0 0), (3, true, str s3), (4, true, int i64 (wrap i64 (i4 + 1)))] [mem 63 [str a, str b]]))))) (ifP (i4 == wrap i64 ((↑(length s3) : Int) - 1)) (gAnd (inR i4 (length s3)) (ifP ((↑(toNat (List.getD s3 (Int.toNat i4) 0)) : Int) == 32) (bool false = v) (gAnd (inR i4 (length s3)) (ifP ((↑(toNat (List.getD s3 (Int.toNat i4) 0)) : Int) == 9) (bool false = v) (ToEnd cfg 128 (bodyOf f128) (RetIs prog f128 v) [code [0, 1, 0, 1, 1], block 0, code [1, 1, 1]] normal [(1, true, ptr 0 0), (3, true, str s3), (4, true, int i64 (wrap i64 (i4 + 1)))] [mem 63 [str a, str b]]))))) (ToEnd cfg 128 (bodyOf f128) (RetIs prog f128 v) [code [0, 1, 0, 1, 1], block 0, code [1, 1, 1]] normal [(1, true, ptr 0 0), (3, true, str s3), (4, true, int i64 (wrap i64 (i4 + 1)))] [mem 63 [str a, str b]]))))))) (∃ (s1 : List UInt8), length s1 ≤ 100000 ∧ [str a] = [str s1] ∧ bool (tokenB s1) = v)) : ToEnd cfg 128 (bodyOf f128) (RetIs prog f128 v) ([.code [0, 1, 0, 1, 1], block 0, code [1, 1, 1]]) .normal ([(1, true, ptr 0 0), (3, true, str s3), (4, true, int i64 i4)]) ([mem 63 [str a, str b]]) := by
  exact ends_round (pl := ⟨[[0, 1, 0, 1, 1]], []⟩) hT 100000 (by kernel_rfl) (unr_use H (by kernel_rfl))
theorem t129 {v : AV} {a b : List UInt8} (hT : TabOk cfg (ctab [])) (H : bool (decide (wrap i64 (wrap i64 ((↑(length a) : Int) + 2) + (↑(length b) : Int)) > 2048)) = v) : ToEnd cfg 129 (bodyOf f129) (RetIs prog f129 v) ([.code []]) .normal ([(0, true, .agg [.str a, .str b])]) ([]) := by
  exact unr_ok (pl := ⟨[], []⟩) hT 100000 _ _ _ _ (unr_use H (by kernel_rfl))
theorem t84a {v : AV} {s : List UInt8} (hT : TabOk cfg (ctab [(127, trimC), (128, fldC mayF), (129, fldC longF)])) (H : ifP (decide ((↑(length s) : Int) > 2048)) (tup [agg [str [], str []], int i64 3] = v) (ToEnd cfg 84 (bodyOf f84) (RetIs prog f84 v) [code [0, 0, 1, 1, 1], block 0, code [1, 1, 1, 1]] normal [(0, true, str s), (2, true, ptr 0 0), (4, true, int i64 0)] [mem 63 [str [], str []]])) : ToEnd cfg 84 (bodyOf f84) (RetIs prog f84 v) ([.code []]) .normal ([(0, true, .str s)]) ([]) := by
  exact unr_ok (pl := ⟨[[0, 0, 1, 1, 1]], []⟩) hT 100000 _ _ _ _ (unr_use H (by kernel_rfl))
theorem t84b {v : AV}  {s0 : List UInt8} {i4 : Int} {sh0_0 : List UInt8} {sh0_1 : List UInt8} (hT : TabOk cfg (ctab [(127, trimC), (128, fldC mayF), (129, fldC longF)])) (H : ifP (decide (i4 < (↑(length s0) : Int))) (gAnd (inR i4 (length s0)) (ifP ((↑(toNat (List.getD s0 (Int.toNat i4) 0)) : Int) != 58) (ToEnd cfg 84 (bodyOf f84) (RetIs prog f84 v) [code [0, 0, 1, 1, 1], block 0, code [1, 1, 1, 1]] normal [(0, true, str s0), (2, true, ptr 0 0), (4, true, int i64 (wrap i64 (i4 + 1)))] [mem 63 [str sh0_0, str sh0_1]]) (ifP (i4 == (↑(length s0) : Int)) (tup [agg [str [], str []], int i64 4] = v) (gAnd (cutOb (length s0) none (some i4)) (gAnd (cutOb (length s0) (some (wrap i64 (i4 + 1))) none) (∃ (s1 : List UInt8), length s1 ≤ 10000000 ∧ [str (cutL s0 (some (wrap i64 (i4 + 1))) none)] = [str s1] ∧ ∃ (a2 : List UInt8) (b3 : List UInt8), length a2 ≤ 100000 ∧ length b3 ≤ 100000 ∧ [agg [str (cutL s0 none (some i4)), str (trB s1)]] = [agg [str a2, str b3]] ∧ ifP (!mayF (Fld.mk a2 b3)) (tup [agg [str [], str []], int i64 4] = v) (∃ (a4 : List UInt8) (b5 : List UInt8), length a4 ≤ 100000 ∧ length b5 ≤ 100000 ∧ [agg [str (cutL s0 none (some i4)), str (trB s1)]] = [agg [str a4, str b5]] ∧ ifP (longF (Fld.mk a4 b5)) (tup [agg [str [], str []], int i64 3] = v) (tup [agg [str (cutL s0 none (some i4)), str (trB s1)], int i64 0] = v)))))))) (ifP (i4 == (↑(length s0) : Int)) (tup [agg [str [], str []], int i64 4] = v) (gAnd (cutOb (length s0) none (some i4)) (gAnd (cutOb (length s0) (some (wrap i64 (i4 + 1))) none) (∃ (s6 : List UInt8), length s6 ≤ 10000000 ∧ [str (cutL s0 (some (wrap i64 (i4 + 1))) none)] = [str s6] ∧ ∃ (a7 : List UInt8) (b8 : List UInt8), length a7 ≤ 100000 ∧ length b8 ≤ 100000 ∧ [agg [str (cutL s0 none (some i4)), str (trB s6)]] = [agg [str a7, str b8]] ∧ ifP (!mayF (Fld.mk a7 b8)) (tup [agg [str [], str []], int i64 4] = v) (∃ (a9 : List UInt8) (b10 : List UInt8), length a9 ≤ 100000 ∧ length b10 ≤ 100000 ∧ [agg [str (cutL s0 none (some i4)), str (trB s6)]] = [agg [str a9, str b10]] ∧ ifP (longF (Fld.mk a9 b10)) (tup [agg [str [], str []], int i64 3] = v) (tup [agg [str (cutL s0 none (some i4)), str (trB s6)], int i64 0] = v))))))) : ToEnd cfg 84 (bodyOf f84) (RetIs prog f84 v) ([.code [0, 0, 1, 1, 1], block 0, code [1, 1, 1, 1]]) .normal ([(0, true, str s0), (2, true, ptr 0 0), (4, true, int i64 i4)]) ([mem 63 [str sh0_0, str sh0_1]]) := by
  exact ends_round (pl := ⟨[[0, 0, 1, 1, 1]], []⟩) hT 100000 (by kernel_rfl) (unr_use H (by kernel_rfl))
theorem t77a {v : AV} {s : List UInt8} (hT : TabOk cfg (ctab [(70, cutGC), (117, trimC), (118, fldC mayF), (119, fldSC)])) (H : ToEnd cfg 77 (bodyOf f77) (RetIs prog f77 v) [code [0, 0, 1], block 0, code [1, 1]] normal [(0, true, str s), (2, true, sl 2 [] (some 0))] [grow 0 2 63]) : ToEnd cfg 77 (bodyOf f77) (RetIs prog f77 v) ([.code []]) .normal ([(0, true, .str s)]) ([]) := by
  exact unr_ok (pl := ⟨[[0, 0, 1]], []⟩) hT 100000 _ _ _ _ (unr_use H (by kernel_rfl))
theorem t77b {v : AV}  {s0 : List UInt8} {e2 : List (List AV)} {g0 : Nat} (hT : TabOk cfg (ctab [(70, cutGC), (117, trimC), (118, fldC mayF), (119, fldSC)])) (H : ifP (!s0 == []) (∃ (s1 : List UInt8) (x2 : List UInt8), length s1 ≤ 10000000 ∧ [str s0, str [13, 10]] = [str s1, str x2] ∧ ifP (!snd (snd (cutS s1 x2))) (tup [sl 2 [] none, int i64 4] = v) (ifP ((↑(length e2) : Int) == 64) (tup [sl 2 [] none, int i64 3] = v) (ifP (decide ((↑(length (fst (cutS s1 x2))) : Int) > 2048)) (tup [sl 2 [] none, int i64 3] = v) (∃ (s3 : List UInt8) (x4 : List UInt8), length s3 ≤ 10000000 ∧ [str (fst (cutS s1 x2)), str [58]] = [str s3, str x4] ∧ ∃ (s5 : List UInt8), length s5 ≤ 10000000 ∧ [str (fst (snd (cutS s3 x4)))] = [str s5] ∧ ifP (!snd (snd (cutS s3 x4))) (tup [sl 2 [] none, int i64 4] = v) (∃ (a6 : List UInt8) (b7 : List UInt8), length a6 ≤ 100000 ∧ length b7 ≤ 100000 ∧ [agg [str (fst (cutS s3 x4)), str (trB s5)]] = [agg [str a6, str b7]] ∧ ifP (!mayF (Fld.mk a6 b7)) (tup [sl 2 [] none, int i64 4] = v) (∃ (a8 : List UInt8) (b9 : List UInt8), length a8 ≤ 100000 ∧ length b9 ≤ 100000 ∧ [agg [str (fst (cutS s3 x4)), str (trB s5)]] = [agg [str a8, str b9]] ∧ ifP (decide ((↑(length (a8 ++ [58, 32] ++ b9)) : Int) > 2048)) (tup [sl 2 [] none, int i64 3] = v) (gAnd (tagOk [grow g0 2 63, mem 63 [str (fst (cutS s3 x4)), str (trB s5)], grow 1 2 63] (length e2) 2 63 (some 0) && true && true && true && decide ((length e2 + 1) * 32 ≤ 140737488355328) && true && true) (gAnd (lowVss 1 (e2 ++ [[str (fst (cutS s3 x4)), str (trB s5)]]) && true && true && true) (ToEnd cfg 77 (bodyOf f77) (RetIs prog f77 v) [code [0, 0, 1], block 0, code [1, 1]] normal [(0, true, str (fst (snd (cutS s1 x2)))), (2, true, sl 2 (e2 ++ [[str (fst (cutS s3 x4)), str (trB s5)]]) (some 0))] [grow (length e2 + 1) 2 63]))))))))) (tup [sl 2 (stripss 0 [grow g0 2 63] e2) none, int i64 0] = v)) : ToEnd cfg 77 (bodyOf f77) (RetIs prog f77 v) ([.code [0, 0, 1], block 0, code [1, 1]]) .normal ([(0, true, str s0), (2, true, sl 2 e2 (some 0))]) ([grow g0 2 63]) := by
  exact ends_round (pl := ⟨[[0, 0, 1]], []⟩) hT 100000 (by kernel_rfl) (unr_use H (by kernel_rfl))
theorem t40a {v : AV} {s : List UInt8} (hT : TabOk cfg (ctab [(84, oneC)])) (H : ToEnd cfg 40 (bodyOf f40) (RetIs prog f40 v) [code [0, 1, 0, 1, 1, 1], block 0, code [1, 1, 1, 1]] normal [(0, true, str s), (4, true, sl 2 [] (some 1)), (5, true, int i64 0), (6, true, int i64 0)] [grow 0 2 63, grow 0 2 63]) : ToEnd cfg 40 (bodyOf f40) (RetIs prog f40 v) ([.code []]) .normal ([(0, true, .str s)]) ([]) := by
  exact unr_ok (pl := ⟨[[0, 1, 0, 1, 1, 1]], []⟩) hT 100000 _ _ _ _ (unr_use H (by kernel_rfl))
theorem t40b {v : AV}  {s0 : List UInt8} {e4 : List (List AV)} {i5 : Int} {i6 : Int} {g0 : Nat} {g1 : Nat} (hT : TabOk cfg (ctab [(84, oneC)])) (H : ifP (decide (wrap i64 (i6 + 1) < (↑(length s0) : Int))) (ifP (decide (i6 < i5)) (gAnd (lowVss 2 e4 && true && true && true) (ToEnd cfg 40 (bodyOf f40) (RetIs prog f40 v) [code [0, 1, 0, 1, 1, 1], block 0, code [1, 1, 1, 1]] normal [(0, true, str s0), (4, true, sl 2 e4 (some 1)), (5, true, int i64 i5), (6, true, int i64 (wrap i64 (i6 + 1)))] [grow g0 2 63, grow g1 2 63])) (gAnd (inR i6 (length s0)) (ifP ((↑(toNat (List.getD s0 (Int.toNat i6) 0)) : Int) != 13) (gAnd (lowVss 2 e4 && true && true && true) (ToEnd cfg 40 (bodyOf f40) (RetIs prog f40 v) [code [0, 1, 0, 1, 1, 1], block 0, code [1, 1, 1, 1]] normal [(0, true, str s0), (4, true, sl 2 e4 (some 1)), (5, true, int i64 i5), (6, true, int i64 (wrap i64 (i6 + 1)))] [grow g0 2 63, grow g1 2 63])) (gAnd (inR (wrap i64 (i6 + 1)) (length s0)) (ifP ((↑(toNat (List.getD s0 (Int.toNat (wrap i64 (i6 + 1))) 0)) : Int) != 10) (gAnd (lowVss 2 e4 && true && true && true) (ToEnd cfg 40 (bodyOf f40) (RetIs prog f40 v) [code [0, 1, 0, 1, 1, 1], block 0, code [1, 1, 1, 1]] normal [(0, true, str s0), (4, true, sl 2 e4 (some 1)), (5, true, int i64 i5), (6, true, int i64 (wrap i64 (i6 + 1)))] [grow g0 2 63, grow g1 2 63])) (ifP ((↑(length e4) : Int) == 64) (tup [sl 2 [] none, int i64 3] = v) (gAnd (cutOb (length s0) (some i5) (some i6)) (∃ (s1 : List UInt8), length s1 ≤ 100000 ∧ [str (cutL s0 (some i5) (some i6))] = [str s1] ∧ ifP (snd (oneF s1) != 0) (tup [sl 2 [] none, int i64 (snd (oneF s1))] = v) (gAnd (tagOk [grow g0 2 63, grow g1 2 63, mem 63 [str (Fld.name (fst (oneF s1))), str (Fld.value (fst (oneF s1)))], grow 1 2 63] (length e4) 2 63 (some 1) && true && true && true && decide ((length e4 + 1) * 32 ≤ 140737488355328) && true && true) (gAnd (lowVss 2 (e4 ++ [[str (Fld.name (fst (oneF s1))), str (Fld.value (fst (oneF s1)))]]) && true && true && true) (ToEnd cfg 40 (bodyOf f40) (RetIs prog f40 v) [code [0, 1, 0, 1, 1, 1], block 0, code [1, 1, 1, 1]] normal [(0, true, str s0), (4, true, sl 2 (e4 ++ [[str (Fld.name (fst (oneF s1))), str (Fld.value (fst (oneF s1)))]]) (some 1)), (5, true, int i64 (wrap i64 (i6 + 2))), (6, true, int i64 (wrap i64 (i6 + 1)))] [grow g0 2 63, grow (length e4 + 1) 2 63]))))))))))) (ifP (decide (i5 < (↑(length s0) : Int))) (tup [sl 2 [] none, int i64 4] = v) (tup [sl 2 (stripss 0 [grow g0 2 63, grow g1 2 63] e4) none, int i64 0] = v))) : ToEnd cfg 40 (bodyOf f40) (RetIs prog f40 v) ([.code [0, 1, 0, 1, 1, 1], block 0, code [1, 1, 1, 1]]) .normal ([(0, true, str s0), (4, true, sl 2 e4 (some 1)), (5, true, int i64 i5), (6, true, int i64 i6)]) ([grow g0 2 63, grow g1 2 63]) := by
  exact ends_round (pl := ⟨[[0, 1, 0, 1, 1, 1]], []⟩) hT 100000 (by kernel_rfl) (unr_use H (by kernel_rfl))
theorem t191 {v : AV} {c : Int} (hT : TabOk cfg (ctab [])) (H : int u8 (bits BinOp.or u8 c 32) = v) : ToEnd cfg 191 (bodyOf f191) (RetIs prog f191 v) ([.code []]) .normal ([(0, true, .int .u8 c)]) ([]) := by
  exact unr_ok (pl := ⟨[], []⟩) hT 100000 _ _ _ _ (unr_use H (by kernel_rfl))
theorem t160 {v : AV} {c : Int} (hT : TabOk cfg (ctab [])) (H : ifP (decide (c ≥ 48)) (ifP (decide (c ≤ 57)) (int i64 (wrap i64 (wrap u8 (c - 48))) = v) (ifP (decide (c ≥ 97)) (ifP (decide (c ≤ 102)) (int i64 (wrap i64 (wrap i64 (wrap u8 (c - 97)) + 10)) = v) (ifP (decide (c ≥ 65)) (ifP (decide (c ≤ 70)) (int i64 (wrap i64 (wrap i64 (wrap u8 (c - 65)) + 10)) = v) (int i64 (-1) = v)) (int i64 (-1) = v))) (ifP (decide (c ≥ 65)) (ifP (decide (c ≤ 70)) (int i64 (wrap i64 (wrap i64 (wrap u8 (c - 65)) + 10)) = v) (int i64 (-1) = v)) (int i64 (-1) = v)))) (ifP (decide (c ≥ 97)) (ifP (decide (c ≤ 102)) (int i64 (wrap i64 (wrap i64 (wrap u8 (c - 97)) + 10)) = v) (ifP (decide (c ≥ 65)) (ifP (decide (c ≤ 70)) (int i64 (wrap i64 (wrap i64 (wrap u8 (c - 65)) + 10)) = v) (int i64 (-1) = v)) (int i64 (-1) = v))) (ifP (decide (c ≥ 65)) (ifP (decide (c ≤ 70)) (int i64 (wrap i64 (wrap i64 (wrap u8 (c - 65)) + 10)) = v) (int i64 (-1) = v)) (int i64 (-1) = v)))) : ToEnd cfg 160 (bodyOf f160) (RetIs prog f160 v) ([.code []]) .normal ([(0, true, .int .u8 c)]) ([]) := by
  exact unr_ok (pl := ⟨[], []⟩) hT 100000 _ _ _ _ (unr_use H (by kernel_rfl))
theorem t136 {v : AV} {s : List UInt8} {n : Int} (hT : TabOk cfg (ctab [])) (H : ifP (decide (wrap i64 (n + 1) < (↑(length s) : Int))) (gAnd (inR n (length s)) (ifP ((↑(toNat (List.getD s (Int.toNat n) 0)) : Int) == 13) (gAnd (inR (wrap i64 (n + 1)) (length s)) (bool ((↑(toNat (List.getD s (Int.toNat (wrap i64 (n + 1))) 0)) : Int) == 10) = v)) (bool false = v))) (bool false = v)) : ToEnd cfg 136 (bodyOf f136) (RetIs prog f136 v) ([.code []]) .normal ([(0, true, .str s), (1, true, .int .i64 n)]) ([]) := by
  exact unr_ok (pl := ⟨[], []⟩) hT 100000 _ _ _ _ (unr_use H (by kernel_rfl))
end Go.Proofs.YtnncfdlpogjlkaaGreatDoor
end
section
namespace Go.Proofs.YtnncfdlpogjlkaaGreatDoor
open Go.Ai Go
set_option maxRecDepth 100000
theorem pf125 : pureFn cfg 125 Tryz.f125 := (by refine ⟨?_, ?_, ?_, ?_, ?_, ?_⟩ <;> kernel_rfl)
theorem pf114 : pureFn cfg 114 Tryz.f114 := (by refine ⟨?_, ?_, ?_, ?_, ?_, ?_⟩ <;> kernel_rfl)
theorem pf126 : pureFn cfg 126 Tryz.f126 := (by refine ⟨?_, ?_, ?_, ?_, ?_, ?_⟩ <;> kernel_rfl)
theorem pf75 : pureFn cfg 75 Tryz.f75 := (by refine ⟨?_, ?_, ?_, ?_, ?_, ?_⟩ <;> kernel_rfl)
theorem pf81 : pureFn cfg 81 Tryz.f81 := (by refine ⟨?_, ?_, ?_, ?_, ?_, ?_⟩ <;> kernel_rfl)
theorem pf108 : pureFn cfg 108 Tryz.f108 := (by refine ⟨?_, ?_, ?_, ?_, ?_, ?_⟩ <;> kernel_rfl)
theorem pf63 : pureFn cfg 63 Tryz.f63 := (by refine ⟨?_, ?_, ?_, ?_, ?_, ?_⟩ <;> kernel_rfl)
theorem pf123 : pureFn cfg 123 Tryz.f123 := (by refine ⟨?_, ?_, ?_, ?_, ?_, ?_⟩ <;> kernel_rfl)
theorem pf156 : pureFn cfg 156 Tryz.f156 := (by refine ⟨?_, ?_, ?_, ?_, ?_, ?_⟩ <;> kernel_rfl)
theorem pf118 : pureFn cfg 118 Tryz.f118 := (by refine ⟨?_, ?_, ?_, ?_, ?_, ?_⟩ <;> kernel_rfl)
theorem pf119 : pureFn cfg 119 Tryz.f119 := (by refine ⟨?_, ?_, ?_, ?_, ?_, ?_⟩ <;> kernel_rfl)
theorem pf128 : pureFn cfg 128 Tryz.f128 := (by refine ⟨?_, ?_, ?_, ?_, ?_, ?_⟩ <;> kernel_rfl)
theorem pf129 : pureFn cfg 129 Tryz.f129 := (by refine ⟨?_, ?_, ?_, ?_, ?_, ?_⟩ <;> kernel_rfl)
theorem pf84 : pureFn cfg 84 Tryz.f84 := (by refine ⟨?_, ?_, ?_, ?_, ?_, ?_⟩ <;> kernel_rfl)
theorem pf77 : pureFn cfg 77 Tryz.f77 := (by refine ⟨?_, ?_, ?_, ?_, ?_, ?_⟩ <;> kernel_rfl)
theorem pf40 : pureFn cfg 40 Tryz.f40 := (by refine ⟨?_, ?_, ?_, ?_, ?_, ?_⟩ <;> kernel_rfl)
theorem pf160 : pureFn cfg 160 Tryz.f160 := (by refine ⟨?_, ?_, ?_, ?_, ?_, ?_⟩ <;> kernel_rfl)
theorem pf136 : pureFn cfg 136 Tryz.f136 := (by refine ⟨?_, ?_, ?_, ?_, ?_, ?_⟩ <;> kernel_rfl)
theorem wrap_b {n : Nat} (h : n ≤ big) : IntKind.wrap .i64 ((n : Int) + 1) = ((n + 1 : Nat) : Int) := by
  unfold big at h; rw [wrap_in] <;> omega
theorem c125 : COk cfg 125 (byteC letterB) := by
  refine cok_pure pf125 fun vs h K ht => ?_
  obtain ⟨c, rfl, hk⟩ := ht; refine ⟨_, hk, t125 (ctab_ok ctab_nil) ?_⟩
  repeat' refine ifP_intro (fun _ => ?_) fun _ => ?_
  all_goals (refine bool_av ?_; simp only [letterB, decide_eq_true_eq, decide_eq_false_iff_not, Bool.and_eq_true, Bool.or_eq_true, Bool.false_eq_true, eq_self_iff_true, true_iff, false_iff] at *; omega)
theorem ix_nonneg : ∀ (l : List UInt8) (c : UInt8), (Lib.indexByte l c ≥ 0) ↔ l.contains c = true
  | [], c => by simp [Lib.indexByte]
  | b :: l, c => by
    have ih := ix_nonneg l c; have hg := Lib.indexByte_ge l c; rw [Lib.indexByte]
    by_cases h : b = c
    · subst h; simp
    · have h' : ¬c = b := fun e => h e.symm
      have hb : (b == c) = false := by simpa using h
      have hb' : (c == b) = false := by simpa using h'
      rw [List.contains_cons, hb', Bool.false_or, ← ih, hb]
      by_cases h1 : Lib.indexByte l c = -1
      · simp [h1]
      · have h2 : (Lib.indexByte l c == -1) = false := by simpa using h1
        simp only [h2, Bool.false_eq_true, if_false]; omega
theorem c153 : COk cfg 153 ixC := by
  refine cok_prim (by kernel_rfl) (by kernel_rfl) (by kernel_rfl : cfg.prim 153 = some pByteIx) (by kernel_rfl) fun vs h K ht => ?_
  obtain ⟨s, c, rfl, hk⟩ := ht; have := c.toNat_lt; refine ⟨.int .i64 (Lib.indexByte s c), hk, ?_⟩
  have e : (c.toNat : Int).toNat.toUInt8 = c := by simp
  simp only [pByteIx, e]
  rw [decide_eq_true (by omega), decide_eq_true (by omega)]; rfl
theorem c114 : COk cfg 114 (byteC wordB) := by
  refine cok_pure pf114 fun vs h K ht => ?_
  obtain ⟨c, rfl, hk⟩ := ht; refine ⟨_, hk, t114 (ctab_ok (ctab_cons c153 ctab_nil)) ?_⟩; have hm := ix_nonneg marksB c; generalize hq : decide (Lib.indexByte marksB c ≥ 0) = q
  have hq' : q = true ↔ marksB.contains c = true := by rw [← hq, decide_eq_true_eq]; exact hm
  repeat' refine ifP_intro (fun _ => ?_) fun _ => ?_
  all_goals first
    | refine ⟨marksB, c, rfl, ?_⟩
      rw [hq]; refine bool_av ?_; rw [hq']; unfold wordB
      clear hq hq' hm
      generalize marksB.contains c = m
      cases m <;> simp only [decide_eq_true_eq, decide_eq_false_iff_not, Bool.and_eq_true, Bool.or_eq_true, Bool.false_eq_true, eq_self_iff_true, true_iff, false_iff, or_true, or_false] at * <;> omega
    | refine bool_av ?_
      simp only [wordB, decide_eq_true_eq, decide_eq_false_iff_not, Bool.and_eq_true, Bool.or_eq_true, Bool.false_eq_true, eq_self_iff_true, true_iff, false_iff] at *; omega
theorem loop126 (c : UInt8) : ∀ (r pre : List UInt8), (pre ++ r).length ≤ big →
    ToEnd cfg 126 (bodyOf Tryz.f126) (RetIs Tryz.prog Tryz.f126 (.bool (r.contains c))) [.code [0, 1, 0, 1], .block 0, .code [1, 1]] .normal [(0, true, .int .u8 c.toNat), (1, true, .str (pre ++ r)), (5, true, .int .i64 pre.length)] [] := by
  intro r
  induction r with
  | nil =>
    intro pre hl
    refine t126b (ctab_ok ctab_nil) (ifP_intro (fun a => ?_) fun _ => rfl)
    simp at a
  | cons x r ih =>
    intro pre hl
    have hlen : pre.length ≤ big := by simp at hl; omega
    refine t126b (ctab_ok ctab_nil) (ifP_intro (fun _ => gAnd_intro (inR_of (by omega) (by simp; omega)) ?_) fun a => ?_)
    · rw [at_pre]
      refine ifP_intro (fun b => ?_) fun b => ?_
      · have : x = c := by
          have hb : (x.toNat : Int) = c.toNat := by simpa using b
          exact UInt8.toNat_inj.1 (by omega)
        subst this; simp
      · have hne : (c == x) = false := by
          rw [beq_eq_false_iff_ne]
          rintro rfl
          simp at b
        rw [wrap_b hlen, List.contains_cons, hne, Bool.false_or]
        have := ih (pre ++ [x]) (by simpa using hl)
        simpa using this
    · simp at a; omega
theorem c126 : COk cfg 126 inC := by
  refine cok_pure pf126 fun vs h K ht => ?_
  obtain ⟨c, s, hl, rfl, hk⟩ := ht; exact ⟨_, hk, t126a (ctab_ok ctab_nil) (loop126 c s [] hl)⟩
theorem loop75 : ∀ (r pre : List UInt8), (pre ++ r).length ≤ big →
    ToEnd cfg 75 (bodyOf Tryz.f75) (RetIs Tryz.prog Tryz.f75 (.bool (r.all wordB && !(pre ++ r).isEmpty))) [.code [0, 1, 0, 1], .block 0, .code [1, 1]] .normal [(0, true, .str (pre ++ r)), (5, true, .int .i64 (pre ++ r).length), (6, true, .int .i64 pre.length)] [] := by
  have hT : TabOk cfg (ctab [(114, byteC wordB)]) := ctab_ok (ctab_cons c114 ctab_nil); intro r
  induction r with
  | nil =>
    intro pre hl
    refine t75b hT (ifP_intro (fun a => ?_) fun _ => ?_)
    · simp at a
    · refine bool_av ?_
      cases pre <;> simp
  | cons x r ih =>
    intro pre hl
    have hlen : pre.length ≤ big := by simp at hl; omega
    refine t75b hT (ifP_intro (fun _ => gAnd_intro (inR_of (by omega) (by simp; omega)) ⟨x, by rw [at_pre], ifP_intro (fun b => ?_) fun b => ?_⟩) fun a => ?_)
    · have hb : wordB x = false := by simpa using b
      rw [List.all_cons, hb]; rfl
    · have hb : wordB x = true := by simpa using b
      rw [wrap_b hlen, List.all_cons, hb, Bool.true_and]
      have := ih (pre ++ [x]) (by simpa using hl)
      simpa using this
    · simp at a; omega
theorem c75 : COk cfg 75 (strC tokenB) := by
  refine cok_pure pf75 fun vs h K ht => ?_
  obtain ⟨s, hl, rfl, hk⟩ := ht; exact ⟨_, hk, t75a (ctab_ok (ctab_cons c114 ctab_nil)) (loop75 s [] hl)⟩
theorem word_split (c : UInt8) : wordB c = (letterB c || marksB.contains c) := by
  unfold wordB letterB; generalize marksB.contains c = m
  cases decide (97 ≤ c.toNat) && decide (c.toNat ≤ 122) <;> cases decide (65 ≤ c.toNat) && decide (c.toNat ≤ 90) <;> cases decide (48 ≤ c.toNat) && decide (c.toNat ≤ 57) <;> cases m <;> rfl
theorem loop81 : ∀ (r pre : List UInt8), (pre ++ r).length ≤ big →
    ToEnd cfg 81 (bodyOf Tryz.f81) (RetIs Tryz.prog Tryz.f81 (.bool (r.all wordB && !(pre ++ r).isEmpty))) [.code [0, 1, 0, 1], .block 0, .code [1, 1]] .normal [(0, true, .str (pre ++ r)), (3, true, .int .i64 pre.length)] [] := by
  have hT : TabOk cfg (ctab [(125, byteC letterB), (126, inC)]) := ctab_ok (ctab_cons c125 (ctab_cons c126 ctab_nil)); intro r
  induction r with
  | nil =>
    intro pre hl
    refine t81b hT (ifP_intro (fun a => ?_) fun _ => ?_)
    · simp at a
    · refine bool_av ?_
      cases pre <;> simp
  | cons x r ih =>
    intro pre hl
    have hlen : pre.length ≤ big := by simp at hl; omega
    have hin : inR (pre.length : Int) (pre ++ x :: r).length = true := inR_of (by omega) (by simp; omega)
    have next : wordB x = true → ToEnd cfg 81 (bodyOf Tryz.f81) (RetIs Tryz.prog Tryz.f81 (.bool ((x :: r).all wordB && !(pre ++ x :: r).isEmpty))) [.code [0, 1, 0, 1], .block 0, .code [1, 1]] .normal [(0, true, .str (pre ++ x :: r)), (3, true, .int .i64 (IntKind.wrap .i64 ((pre.length : Int) + 1)))] [] := fun hb => by
      rw [wrap_b hlen, List.all_cons, hb, Bool.true_and]
      have := ih (pre ++ [x]) (by simpa using hl)
      simpa using this
    refine t81b hT (ifP_intro (fun _ => gAnd_intro hin ⟨x, by rw [at_pre], ifP_intro (fun b => gAnd_intro hin ⟨x, marksB, by decide, by rw [at_pre]; rfl, ifP_intro (fun d => ?_) fun d => next ?_⟩) fun b => next ?_⟩) fun a => ?_)
    · have : wordB x = false := by rw [word_split]; simp at b d; simp [b]; exact d
      rw [List.all_cons, this]; rfl
    · rw [word_split]; simp at d; simp [d]
    · rw [word_split]; simp at b; simp [b]
    · simp at a; omega
theorem c81 : COk cfg 81 (strC tokenB) := by
  refine cok_pure pf81 fun vs h K ht => ?_
  obtain ⟨s, hl, rfl, hk⟩ := ht; exact ⟨_, hk, t81a (ctab_ok (ctab_cons c125 (ctab_cons c126 ctab_nil))) (loop81 s [] hl)⟩
theorem c108 : COk cfg 108 prefC := by
  refine cok_pure pf108 fun vs h K ht => ?_
  obtain ⟨s, x, rfl, hk⟩ := ht
  refine ⟨_, hk, t108 (ctab_ok ctab_nil) (ifP_intro (fun a => ?_) fun a => ?_)⟩
  · have hl : x.length ≤ s.length := by simpa using a
    refine gAnd_intro (by simp [cutOb]; omega) ?_
    refine bool_av ?_; simp only [cutL, Int.toNat_natCast, beq_iff_eq]; rw [List.isPrefixOf_iff_prefix]
    exact ⟨fun h => h ▸ List.take_prefix _ _, fun h => (List.prefix_iff_eq_take.1 h).symm⟩
  · have hl : s.length < x.length := by simpa using a
    refine bool_av ⟨fun h => by (cases h), fun h => ?_⟩
    have := (List.isPrefixOf_iff_prefix.1 h).length_le; omega
theorem c63 : COk cfg 63 prefC := by
  refine cok_pure pf63 fun vs h K ht => ?_
  obtain ⟨s, x, rfl, hk⟩ := ht; exact ⟨_, hk, t63 (ctab_ok (ctab_cons c108 ctab_nil)) ⟨s, x, rfl, rfl⟩⟩
theorem c69 : COk cfg 69 ixSC := by
  refine cok_prim (by kernel_rfl) (by kernel_rfl) (by kernel_rfl : cfg.prim 69 = some pIndex) (by kernel_rfl) fun vs h K ht => ?_
  obtain ⟨s, x, hl, rfl, hk⟩ := ht; refine ⟨.int .i64 (idxB s x 0), hk, ?_⟩
  have : Nat.blt s.length 4294967281 = true := Nat.ble_eq_true_of_le (by unfold lim at hl; omega)
  simp only [pIndex, this]
theorem c70 : COk cfg 70 cutGC := by
  refine cok_prim (by kernel_rfl) (by kernel_rfl) (by kernel_rfl : cfg.prim 70 = some pCut) (by kernel_rfl) fun vs h K ht => ?_
  obtain ⟨s, x, hl, rfl, hk⟩ := ht; refine ⟨.tup [.str (cutS s x).1, .str (cutS s x).2.1, .bool (cutS s x).2.2], hk, ?_⟩
  have : Nat.blt s.length 4294967281 = true := Nat.ble_eq_true_of_le (by unfold lim at hl; omega)
  simp only [pCut, this]
theorem cutS_fnd (s x : List UInt8) : cutS s x = match fnd x s with | some n => (s.take n, s.drop (n + x.length), true) | none => (s, [], false) := by
  unfold cutS; rw [idxB_fnd]
  cases fnd x s with
  | none => rfl
  | some n =>
    simp only [Nat.zero_add]
    rw [decide_eq_true (by omega)]
    simp
theorem c123 : COk cfg 123 lineC := by
  refine cok_pure pf123 fun vs h K ht => ?_
  obtain ⟨s, en, m, hs, hen, hm, rfl, hk⟩ := ht
  have hc : cutL s none (some (min (s.length : Int) (m : Int))) = s.take m := by
    have : (min (s.length : Int) (m : Int)).toNat = min s.length m := by omega
    simp only [cutL, this]; rw [Nat.min_comm, ← List.take_take, List.take_length]
  refine ⟨_, hk, t123 (ctab_ok (ctab_cons c69 ctab_nil)) (gAnd_intro (by simp [cutOb]; omega) ⟨s.take m, en, by unfold lim at hs; rw [List.length_take]; omega, by rw [hc], ?_⟩)⟩
  unfold lineA; rw [idxB_fnd]
  cases hf : fnd en (s.take m) with
  | none =>
    refine ifP_intro (fun b => by simp at b) fun _ => ifP_intro (fun b => ?_) fun b => ?_
    · rw [if_pos (by simpa using b)]; rfl
    · rw [if_neg (by simp at b; omega)]; rfl
  | some n =>
    have h2 := (fnd_some hf).2; simp at h2
    refine ifP_intro (fun _ => gAnd_intro (by simp [cutOb]; omega) ?_) fun b => by simp at b
    have : IntKind.wrap .i64 (((0 + n : Nat) : Int) + (en.length : Int)) = ((n + en.length : Nat) : Int) := by unfold lim at hs; rw [wrap_in (by omega) (by omega)]; omega
    simp only [this]; simp [cutL]
theorem isBl_nat (c : UInt8) : isBl c = true ↔ c.toNat = 32 ∨ c.toNat = 9 := by
  unfold isBl; rw [Bool.or_eq_true, beq_iff_eq, beq_iff_eq, ← UInt8.toNat_inj, ← UInt8.toNat_inj]; rfl
theorem valC_nat (c : UInt8) : valC c = true ↔ ¬ ((c.toNat < 32 ∧ c.toNat ≠ 9) ∨ c.toNat = 127) := by
  unfold valC; simp only [Bool.not_eq_true', Bool.or_eq_false_iff, Bool.and_eq_false_iff, Bool.not_eq_false', decide_eq_true_eq, decide_eq_false_iff_not]; omega
theorem loop156 : ∀ (r pre : List UInt8), (pre ++ r).length ≤ big →
    ToEnd cfg 156 (bodyOf Tryz.f156) (RetIs Tryz.prog Tryz.f156 (.bool (r.all valC && (trB (pre ++ r) == pre ++ r)))) [.code [0, 1, 0, 1], .block 0, .code [1, 1]] .normal [(0, true, .str (pre ++ r)), (6, true, .int .i64 (pre ++ r).length), (7, true, .int .i64 pre.length)] [] := by
  have hT : TabOk cfg (ctab [(117, trimC)]) := ctab_ok (ctab_cons c117 ctab_nil); intro r
  induction r with
  | nil =>
    intro pre hl
    refine t156b hT (ifP_intro (fun a => ?_) fun _ => ⟨_, ?_, rfl, rfl⟩)
    · simp at a
    · unfold big at hl; omega
  | cons x r ih =>
    intro pre hl
    have hlen : pre.length ≤ big := by simp at hl; omega
    have hin : inR (pre.length : Int) (pre ++ x :: r).length = true := inR_of (by omega) (by simp; omega)
    have next : valC x = true → ToEnd cfg 156 (bodyOf Tryz.f156) (RetIs Tryz.prog Tryz.f156 (.bool ((x :: r).all valC && (trB (pre ++ x :: r) == pre ++ x :: r)))) [.code [0, 1, 0, 1], .block 0, .code [1, 1]] .normal [(0, true, .str (pre ++ x :: r)), (6, true, .int .i64 (pre ++ x :: r).length), (7, true, .int .i64 (IntKind.wrap .i64 ((pre.length : Int) + 1)))] [] := fun hb => by
      rw [wrap_b hlen, List.all_cons, hb, Bool.true_and]
      have := ih (pre ++ [x]) (by simpa using hl)
      simpa using this
    have bad : ¬ valC x = true → AV.bool false = AV.bool ((x :: r).all valC && (trB (pre ++ x :: r) == pre ++ x :: r)) := fun hb => by
      rw [List.all_cons, eq_false_of_ne_true hb]; rfl
    rw [valC_nat] at next bad
    refine t156b hT (ifP_intro (fun _ => gAnd_intro hin ?_) fun a => by simp at a; omega)
    rw [at_pre]
    refine ifP_intro (fun b => ifP_intro (fun d => bad ?_) fun d => ifP_intro (fun e => bad ?_) fun e => next ?_) fun b => ifP_intro (fun e => bad ?_) fun e => next ?_ <;>
      simp only [decide_eq_true_eq, decide_eq_false_iff_not, bne_iff_ne, ne_eq, bne_eq_false_iff_eq, beq_iff_eq, beq_eq_false_iff_ne] at * <;> omega
theorem c156 : COk cfg 156 (strC valS) := by
  refine cok_pure pf156 fun vs h K ht => ?_
  obtain ⟨s, hl, rfl, hk⟩ := ht; exact ⟨_, hk, t156a (ctab_ok (ctab_cons c117 ctab_nil)) (loop156 s [] hl)⟩
theorem c118 : COk cfg 118 (fldC mayF) := by
  refine cok_pure pf118 fun vs h K ht => ?_
  obtain ⟨a, b, ha, hb, rfl, hk⟩ := ht
  refine ⟨_, hk, t118 (ctab_ok (ctab_cons c75 (ctab_cons c156 ctab_nil))) ⟨a, ha, rfl, ifP_intro (fun d => ⟨b, hb, rfl, ?_⟩) fun d => ?_⟩⟩
  · unfold mayF tokS; simp only [d, Bool.true_and]
  · unfold mayF tokS; simp only [d, Bool.false_and]
theorem c119 : COk cfg 119 fldSC := by
  refine cok_pure pf119 fun vs h K ht => ?_
  obtain ⟨a, b, ha, hb, rfl, hk⟩ := ht; unfold big at ha hb
  exact ⟨_, hk, t119 (ctab_ok ctab_nil) (gAnd_intro (decide_eq_true (by omega)) (gAnd_intro (decide_eq_true (by simp; omega)) rfl))⟩
def mayG (n : Nat) : Nat → List UInt8 → Bool
  | _, [] => true
  | i, c :: r => (valC c && !((decide (i = 0) || decide (i + 1 = n)) && isBl c)) && mayG n (i + 1) r
theorem mayG_iff (n : Nat) : ∀ (r : List UInt8) (i : Nat), mayG n i r = true ↔ ∀ (j : Nat) x, r[j]? = some x → valC x = true ∧ ((i + j = 0 ∨ i + j + 1 = n) → isBl x = false)
  | [], i => by simp [mayG]
  | c :: r, i => by
    rw [mayG, Bool.and_eq_true, mayG_iff n r (i + 1)]; constructor
    · rintro ⟨h1, h2⟩ j x hx
      cases j with
      | zero =>
        simp only [List.getElem?_cons_zero, Option.some.injEq] at hx; subst hx; simp only [Bool.and_eq_true, Bool.not_eq_true', Bool.and_eq_false_iff, Bool.or_eq_false_iff, decide_eq_false_iff_not] at h1
        refine ⟨h1.1, fun h => ?_⟩
        rcases h1.2 with h3 | h3
        · omega
        · exact h3
      | succ j =>
        obtain ⟨q1, q2⟩ := h2 j x (by simpa using hx)
        exact ⟨q1, fun h => q2 (by omega)⟩
    · intro h
      refine ⟨?_, fun j x hx => ?_⟩
      · obtain ⟨q1, q2⟩ := h 0 c rfl; rw [q1, Bool.true_and, Bool.not_eq_true', Bool.and_eq_false_iff]
        by_cases hi : i = 0 ∨ i + 1 = n
        · exact .inr (q2 (by omega))
        · left; rw [Bool.or_eq_false_iff, decide_eq_false_iff_not, decide_eq_false_iff_not]; omega
      · obtain ⟨q1, q2⟩ := h (j + 1) x (by simpa using hx)
        exact ⟨q1, fun h => q2 (by omega)⟩
theorem trB_edges {v : List UInt8} (hv : v ≠ []) : trB v = v ↔ (∀ x, v[0]? = some x → isBl x = false) ∧ ∀ x, v[v.length - 1]? = some x → isBl x = false := by
  have hl : 0 < v.length := List.length_pos_iff.2 hv; constructor
  · intro h
    have hh : ∀ (w : List UInt8) x, (Lib.trimLeftS w [32, 9])[0]? = some x → isBl x = false := fun w x hx => by
      unfold Lib.trimLeftS at hx
      have := List.head?_dropWhile_not (fun b => [32, 9].contains b) w
      rw [List.head?_eq_getElem?, hx] at this; simp only at this; rw [← contains_bl]; simpa using this
    refine ⟨fun x hx => hh _ x (by unfold trB Lib.trimS at h; rw [h]; exact hx), fun x hx => ?_⟩
    have h1 : (Lib.trimRightS v [32, 9]).length = v.length := by
      have a1 : (Lib.trimLeftS (Lib.trimRightS v [32, 9]) [32, 9]).length ≤ (Lib.trimRightS v [32, 9]).length := dropWhile_len _; have a2 : Lib.trimLeftS (Lib.trimRightS v [32, 9]) [32, 9] = v := h
      have a3 : (Lib.trimRightS v [32, 9]).length ≤ v.length := by
        unfold Lib.trimRightS; rw [List.length_reverse]
        exact Nat.le_trans (dropWhile_len _) (by simp)
      rw [a2] at a1; omega
    have h2 : v.reverse.dropWhile (fun b => [32, 9].contains b) = v.reverse := by
      have a1 : (v.reverse.dropWhile (fun b => [32, 9].contains b)).length = v.reverse.length := by
        unfold Lib.trimRightS at h1; rw [List.length_reverse] at h1; rw [List.length_reverse]; exact h1
      exact (List.dropWhile_suffix _).eq_of_length a1
    have := List.head?_dropWhile_not (fun b => [32, 9].contains b) v.reverse
    rw [h2, List.head?_reverse, List.getLast?_eq_getElem?, hx] at this; simp only at this; rw [← contains_bl]; simpa using this
  · rintro ⟨h1, h2⟩
    rw [trB_cut (s := v) (a := 0) (b := v.length) (Nat.zero_le _) (Nat.le_refl _) (fun j x hj _ => by omega) (fun j x hj hx => by rw [List.getElem?_eq_none hj] at hx; cases hx) (.inr ⟨h1, h2⟩)]
    simp
theorem mayG_val (v : List UInt8) : mayG v.length 0 v = valS v := by
  rw [Bool.eq_iff_iff, mayG_iff]; unfold valS; rw [Bool.and_eq_true, List.all_eq_true, beq_iff_eq]
  by_cases hv : v = []
  · subst hv; simp; rfl
  have hl : 0 < v.length := List.length_pos_iff.2 hv; rw [trB_edges hv]; constructor
  · intro h
    refine ⟨fun x hx => ?_, fun x hx => (h 0 x hx).2 (by omega), fun x hx => (h _ x hx).2 (by omega)⟩
    obtain ⟨j, hj⟩ := List.mem_iff_getElem?.1 hx; exact (h j x hj).1
  · rintro ⟨h1, h2, h3⟩ j x hx
    refine ⟨h1 x (List.mem_of_getElem? hx), fun hj => ?_⟩
    rcases hj with hj | hj
    · have : j = 0 := by omega
      subst this; exact h2 x hx
    · have : j = v.length - 1 := by omega
      subst this; exact h3 x hx
theorem loop128 (a : List UInt8) {b : List UInt8} (ha : a.length ≤ big) : ∀ (r pre : List UInt8), (pre ++ r).length ≤ big →
    ToEnd cfg 128 (bodyOf Tryz.f128) (RetIs Tryz.prog Tryz.f128 (.bool (tokenB a && mayG (pre ++ r).length pre.length r))) [.code [0, 1, 0, 1, 1], .block 0, .code [1, 1, 1]] .normal [(1, true, .ptr 0 0), (3, true, .str (pre ++ r)), (4, true, .int .i64 pre.length)] [.mem 63 [.str a, .str b]] := by
  have hT : TabOk cfg (ctab [(81, strC tokenB)]) := ctab_ok (ctab_cons c81 ctab_nil); intro r
  induction r with
  | nil =>
    intro pre hl
    refine t128b hT (ifP_intro (fun a => ?_) fun _ => ⟨_, ha, rfl, ?_⟩)
    · simp at a
    · rw [mayG, Bool.and_true]
  | cons x r ih =>
    intro pre hl
    have hlen : pre.length ≤ big := by simp at hl; omega
    have hlen2 : (pre ++ x :: r).length = pre.length + r.length + 1 := by simp; omega
    have hin : inR (pre.length : Int) (pre ++ x :: r).length = true := inR_of (by omega) (by simp; omega)
    have hw : IntKind.wrap .i64 (((pre ++ x :: r).length : Int) - 1) = ((pre.length + r.length : Nat) : Int) := by unfold big at hl; rw [hlen2, wrap_in (by omega) (by omega)]; omega
    have key : (valC x && !((decide (pre.length = 0) || decide (pre.length + 1 = (pre ++ x :: r).length)) && isBl x)) = true ↔ ¬ ((x.toNat < 32 ∧ x.toNat ≠ 9) ∨ x.toNat = 127) ∧ ¬ ((pre.length = 0 ∨ r.length = 0) ∧ (x.toNat = 32 ∨ x.toNat = 9)) := by
      rw [Bool.and_eq_true, valC_nat, Bool.not_eq_true', ← Bool.not_eq_true, Bool.and_eq_true, isBl_nat, Bool.or_eq_true, decide_eq_true_eq, decide_eq_true_eq, hlen2]
      have : pre.length + 1 = pre.length + r.length + 1 ↔ r.length = 0 := by omega
      rw [this]
    have next : (valC x && !((decide (pre.length = 0) || decide (pre.length + 1 = (pre ++ x :: r).length)) && isBl x)) = true → ToEnd cfg 128 (bodyOf Tryz.f128) (RetIs Tryz.prog Tryz.f128 (.bool (tokenB a && mayG (pre ++ x :: r).length pre.length (x :: r)))) [.code [0, 1, 0, 1, 1], .block 0, .code [1, 1, 1]] .normal [(1, true, .ptr 0 0), (3, true, .str (pre ++ x :: r)), (4, true, .int .i64 (IntKind.wrap .i64 ((pre.length : Int) + 1)))] [.mem 63 [.str a, .str b]] := fun hb => by
      rw [wrap_b hlen, mayG, hb, Bool.true_and]
      have := ih (pre ++ [x]) (by simpa using hl)
      simpa using this
    have bad : ¬ (valC x && !((decide (pre.length = 0) || decide (pre.length + 1 = (pre ++ x :: r).length)) && isBl x)) = true → AV.bool false = AV.bool (tokenB a && mayG (pre ++ x :: r).length pre.length (x :: r)) := fun hb => by
      rw [mayG, eq_false_of_ne_true hb, Bool.false_and, Bool.and_false]
    rw [key] at next bad
    refine t128b hT (ifP_intro (fun _ => gAnd_intro hin ?_) fun a => by simp at a; omega)
    rw [at_pre, hw]
    clear ih key
    repeat' first
      | refine gAnd_intro hin ?_
      | refine ifP_intro (fun _ => ?_) fun _ => ?_
    all_goals first
      | refine next ?_
      | refine bad ?_
    all_goals (clear next bad hin hw; simp only [decide_eq_true_eq, decide_eq_false_iff_not, bne_iff_ne, ne_eq, bne_eq_false_iff_eq, beq_iff_eq, beq_eq_false_iff_ne] at *; omega)
theorem c128 : COk cfg 128 (fldC mayF) := by
  refine cok_pure pf128 fun vs h K ht => ?_
  obtain ⟨a, b, ha, hb, rfl, hk⟩ := ht; have := loop128 (b := b) a ha b [] hb; refine ⟨_, hk, t128a (ctab_ok (ctab_cons c81 ctab_nil)) ?_⟩
  have e : mayF ⟨a, b⟩ = (tokenB a && mayG ([] ++ b).length ([] : List UInt8).length b) := by
    unfold mayF tokS; rw [List.nil_append, List.length_nil, mayG_val]
  rw [e]; exact this
theorem c129 : COk cfg 129 (fldC longF) := by
  refine cok_pure pf129 fun vs h K ht => ?_
  obtain ⟨a, b, ha, hb, rfl, hk⟩ := ht; unfold big at ha hb; refine ⟨_, hk, t129 (ctab_ok ctab_nil) ?_⟩
  rw [wrap_in (n := (a.length : Int) + 2) (by omega) (by omega), wrap_in (by omega) (by omega)]
  refine bool_av ?_; unfold longF; rw [decide_eq_true_eq, decide_eq_true_eq]; simp only; omega
end Go.Proofs.YtnncfdlpogjlkaaGreatDoor
end
section
namespace Go.Proofs.YtnncfdlpogjlkaaGreatDoor
open Go.Ai Go
set_option maxRecDepth 100000
theorem fnd_one {x : UInt8} : ∀ (pre r : List UInt8), (∀ c ∈ pre, c ≠ x) → fnd [x] (pre ++ x :: r) = some pre.length
  | [], r, _ => by simp [fnd]
  | c :: pre, r, h => by
    have hc := h c (by simp)
    have : [x].isPrefixOf (c :: (pre ++ x :: r)) = false := by
      refine eq_false_of_ne_true fun hp => hc ?_
      simp at hp; exact hp.symm
    rw [List.cons_append, fnd, this, if_neg (by simp), fnd_one pre r fun d hd => h d (by simp [hd])]
    rfl
theorem fnd_one_no {x : UInt8} : ∀ (s : List UInt8), (∀ c ∈ s, c ≠ x) → fnd [x] s = none
  | [], _ => by simp [fnd]
  | c :: s, h => by
    have hc := h c (by simp)
    have : [x].isPrefixOf (c :: s) = false := by
      refine eq_false_of_ne_true fun hp => hc ?_
      simp at hp; exact hp.symm
    rw [fnd, this, if_neg (by simp), fnd_one_no s fun d hd => h d (by simp [hd])]
    rfl
def oneV (s : List UInt8) : AV := .tup [.agg [.str (oneF s).1.name, .str (oneF s).1.value], .int .i64 (oneF s).2]
theorem tab84 : TabOk cfg (ctab [(127, trimC), (128, fldC mayF), (129, fldC longF)]) := ctab_ok (ctab_cons c127 (ctab_cons c128 (ctab_cons c129 ctab_nil)))
theorem loop84 : ∀ (r pre : List UInt8), (pre ++ r).length ≤ 2048 → (∀ c ∈ pre, c ≠ 58) →
    ToEnd cfg 84 (bodyOf Tryz.f84) (RetIs Tryz.prog Tryz.f84 (oneV (pre ++ r))) [.code [0, 0, 1, 1, 1], .block 0, .code [1, 1, 1, 1]] .normal [(0, true, .str (pre ++ r)), (2, true, .ptr 0 0), (4, true, .int .i64 pre.length)] [.mem 63 [.str [], .str []]] := by
  intro r
  induction r with
  | nil =>
    intro pre hl hp
    refine t84b tab84 (ifP_intro (fun a => by simp at a) fun _ => ifP_intro (fun _ => ?_) fun a => by simp at a)
    have : fnd [58] (pre ++ []) = none := by rw [List.append_nil]; exact fnd_one_no pre hp
    unfold oneV oneF
    rw [if_neg (by omega), this]
  | cons x r ih =>
    intro pre hl hp
    have hlen : pre.length ≤ big := by simp at hl; unfold big; omega
    have hin : inR (pre.length : Int) (pre ++ x :: r).length = true := inR_of (by omega) (by simp; omega)
    refine t84b tab84 (ifP_intro (fun _ => gAnd_intro hin ?_) fun a => by simp at a; omega)
    rw [at_pre]
    refine ifP_intro (fun b => ?_) fun b => ifP_intro (fun a => by simp at a; omega) fun _ => ?_
    · have hx : x ≠ 58 := unq 58 rfl b; rw [wrap_b hlen]
      have := ih (pre ++ [x]) (by simpa using hl) (fun c hc => by
        rcases List.mem_append.1 hc with h | h
        · exact hp c h
        · rw [List.mem_singleton] at h; subst h; exact hx)
      simpa using this
    · have hx : x = 58 := unq' 58 rfl b; subst hx; have hf := fnd_one pre r hp; rw [wrap_b hlen]
      have e1 : cutL (pre ++ 58 :: r) none (some ((pre.length : Nat) : Int)) = (pre ++ 58 :: r).take pre.length := by simp [cutL]
      have e2 : cutL (pre ++ 58 :: r) (some ((pre.length + 1 : Nat) : Int)) none = (pre ++ 58 :: r).drop (pre.length + 1) := by
        simp only [cutL, Int.toNat_natCast]
      have hl1 : ((pre ++ 58 :: r).take pre.length).length ≤ big := by rw [List.length_take]; omega
      have hl2 : ((pre ++ 58 :: r).drop (pre.length + 1)).length ≤ 2048 := by rw [List.length_drop]; omega
      have hl3 : (trB ((pre ++ 58 :: r).drop (pre.length + 1))).length ≤ big := Nat.le_trans (trB_len _) (by unfold big; omega)
      rw [e1, e2]
      refine gAnd_intro (by simp [cutOb]; omega) (gAnd_intro (by simp [cutOb]; omega) ⟨_, by omega, rfl, _, _, hl1, hl3, rfl, ?_⟩)
      unfold oneV oneF
      rw [if_neg (by omega), hf]
      simp only
      refine ifP_intro (fun a => ?_) fun a => ⟨_, _, hl1, hl3, rfl, ifP_intro (fun d => ?_) fun d => ?_⟩
      · rw [if_neg (by simpa using a)]
      · rw [if_pos (by simpa using a), if_pos d]
      · rw [if_pos (by simpa using a), if_neg (by rw [d]; exact Bool.false_ne_true)]
theorem c84 : COk cfg 84 oneC := by
  refine cok_pure pf84 fun vs h K ht => ?_
  obtain ⟨s, hl, rfl, hk⟩ := ht
  refine ⟨_, hk, t84a tab84 (ifP_intro (fun a => ?_) fun a => ?_)⟩
  · have : 2048 < s.length := by simp only [gt_iff_lt, decide_eq_true_eq] at a; omega
    unfold oneF; rw [if_pos this]
  · have : ¬ 2048 < s.length := by simp only [gt_iff_lt, decide_eq_false_iff_not] at a; omega
    exact loop84 s [] (by simp; omega) (by simp)
theorem parF_fuel : ∀ (f g k : Nat) (s : List UInt8), s.length < f → s.length < g → parF f k s = parF g k s
  | 0, g, k, s, h, _ => by omega
  | f + 1, 0, k, s, _, h => by omega
  | f + 1, g + 1, k, s, h1, h2 => by
    rw [parF, parF]
    by_cases hs : s = []
    · rw [if_pos hs, if_pos hs]
    rw [if_neg hs, if_neg hs]
    cases hf : fnd crlf s with
    | none => rfl
    | some i =>
      have h3 := (fnd_some hf).2
      have h4 : (s.drop (i + 2)).length < f := by simp [crlf] at h3 ⊢; omega
      have h5 : (s.drop (i + 2)).length < g := by simp [crlf] at h3 ⊢; omega
      simp only; rw [parF_fuel f g (k + 1) _ h4 h5]
def parS (k : Nat) (s : List UInt8) : List Fld × Int := parF (s.length + 1) k s
theorem parS_nil (k : Nat) : parS k [] = ([], 0) := by unfold parS; rw [parF, if_pos rfl]
theorem parS_none {k : Nat} {s : List UInt8} (hs : s ≠ []) (hf : fnd crlf s = none) : parS k s = ([], 4) := by unfold parS; rw [parF, if_neg hs, hf]
theorem parS_some {k i : Nat} {s : List UInt8} (hf : fnd crlf s = some i) : parS k s = if 64 ≤ k then ([], 3) else if (oneF (s.take i)).2 ≠ 0 then ([], (oneF (s.take i)).2) else
    if (parS (k + 1) (s.drop (i + 2))).2 ≠ 0 then ([], (parS (k + 1) (s.drop (i + 2))).2) else ((oneF (s.take i)).1 :: (parS (k + 1) (s.drop (i + 2))).1, 0) := by
  have h3 := (fnd_some hf).2
  have hs : s ≠ [] := by rintro rfl; simp [crlf] at h3
  unfold parS; rw [parF, if_neg hs, hf]; simp only
  rw [parF_fuel s.length ((s.drop (i + 2)).length + 1) (k + 1) _ (by simp [crlf] at h3 ⊢; omega) (by omega)]
def accV (acc : List Fld) (p : List Fld × Int) : AV := .tup [.sl 2 (encFs (if p.2 = 0 then acc ++ p.1 else [])) none, .int .i64 p.2]
theorem accV_err {acc : List Fld} {p : List Fld × Int} {e : Int} (h : p = ([], e)) (he : e ≠ 0) : AV.tup [.sl 2 [] none, .int .i64 e] = accV acc p := by
  subst h; unfold accV; rw [if_neg he]; rfl
theorem accV_nil (acc : List Fld) : AV.tup [.sl 2 (encFs acc) none, .int .i64 0] = accV acc ([], 0) := by
  unfold accV; rw [if_pos rfl, List.append_nil]
theorem accV_more {acc : List Fld} {i : Nat} {s : List UInt8} (hk : ¬ 64 ≤ acc.length) (hf : fnd crlf s = some i) (h1 : (oneF (s.take i)).2 = 0) : accV acc (parS acc.length s) = accV (acc ++ [(oneF (s.take i)).1]) (parS (acc ++ [(oneF (s.take i)).1]).length (s.drop (i + 2))) := by
  rw [parS_some hf, if_neg hk, if_neg (by rw [h1]; simp), List.length_append, List.length_singleton]
  by_cases h2 : (parS (acc.length + 1) (s.drop (i + 2))).2 = 0
  · rw [if_neg (by rw [h2]; simp)]
    unfold accV; rw [if_pos rfl, if_pos h2, h2, List.append_assoc]; rfl
  · rw [if_pos h2]; unfold accV; rw [if_neg h2, if_neg h2]
theorem tab77 : TabOk cfg (ctab [(70, cutGC), (117, trimC), (118, fldC mayF), (119, fldSC)]) := ctab_ok (ctab_cons c70 (ctab_cons c117 (ctab_cons c118 (ctab_cons c119 ctab_nil))))
theorem encFs_one (acc : List Fld) (a b : List UInt8) : encFs acc ++ [[AV.str a, AV.str b]] = encFs (acc ++ [⟨a, b⟩]) := by simp [encFs, encF]
theorem loop77 : ∀ (m : Nat) (s : List UInt8) (acc : List Fld), s.length ≤ m → s.length ≤ big → acc.length ≤ 64 →
    ToEnd cfg 77 (bodyOf Tryz.f77) (RetIs Tryz.prog Tryz.f77 (accV acc (parS acc.length s))) [.code [0, 0, 1], .block 0, .code [1, 1]] .normal [(0, true, .str s), (2, true, .sl 2 (encFs acc) (some 0))] [.grow acc.length 2 63] := by
  intro m
  induction m with
  | zero =>
    intro s acc hm hl ha
    obtain rfl : s = [] := List.eq_nil_of_length_eq_zero (by omega)
    refine t77b tab77 (ifP_intro (fun b => by simp at b) fun _ => ?_)
    rw [stripss_encFs, parS_nil]; exact accV_nil acc
  | succ m ih =>
    intro s acc hm hl ha
    refine t77b tab77 (ifP_intro (fun b => ?_) fun b => ?_)
    · have hs : s ≠ [] := by simpa using b
      refine ⟨s, [13, 10], by unfold big at hl; omega, rfl, ?_⟩
      have hc : cutS s [13, 10] = match fnd crlf s with | some n => (s.take n, s.drop (n + 2), true) | none => (s, [], false) := cutS_fnd s crlf
      rw [hc]
      cases hf : fnd crlf s with
      | none =>
        refine ifP_intro (fun _ => accV_err (parS_none hs hf) (by omega)) fun d => by simp at d
      | some i =>
        have h3 := (fnd_some hf).2
        have h3 : i + 2 ≤ s.length := by simpa [crlf] using h3
        have htk : (s.take i).length = i := by simp; omega
        simp only
        refine ifP_intro (fun d => by simp at d) fun _ => ifP_intro (fun d => ?_) fun d => ifP_intro (fun e => ?_) fun e => ?_
        · have hk : 64 ≤ acc.length := by rw [encFs_len] at d; simp at d; omega
          exact accV_err (by rw [parS_some hf, if_pos hk]) (by omega)
        · have hk : ¬ 64 ≤ acc.length := by rw [encFs_len] at d; simp at d; omega
          have he : oneF (s.take i) = (⟨[], []⟩, 3) := by
            unfold oneF; simp only [gt_iff_lt, decide_eq_true_eq] at e
            rw [if_pos (by omega)]
          exact accV_err (by rw [parS_some hf, if_neg hk, he, if_pos (by simp)]) (by omega)
        · have hk : ¬ 64 ≤ acc.length := by rw [encFs_len] at d; simp at d; omega
          have h2 : ¬ 2048 < (s.take i).length := by simp only [gt_iff_lt, decide_eq_false_iff_not] at e; omega
          refine ⟨s.take i, [58], by omega, rfl, ?_⟩
          have hc2 : cutS (s.take i) [58] = match fnd [58] (s.take i) with | some n => ((s.take i).take n, (s.take i).drop (n + 1), true) | none => (s.take i, [], false) := cutS_fnd (s.take i) [58]
          rw [hc2]
          cases hf2 : fnd [58] (s.take i) with
          | none =>
            have he : oneF (s.take i) = (⟨[], []⟩, 4) := by
              unfold oneF; rw [if_neg h2, hf2]
            refine ⟨[], by simp, rfl, ifP_intro (fun _ => ?_) fun g => by simp at g⟩
            exact accV_err (by rw [parS_some hf, if_neg hk, he, if_pos (by simp)]) (by omega)
          | some j =>
            simp only
            have hl1 : ((s.take i).take j).length ≤ big := by rw [List.length_take]; unfold big; omega
            have hl2 : ((s.take i).drop (j + 1)).length ≤ 2048 := by rw [List.length_drop]; omega
            have hl3 : (trB ((s.take i).drop (j + 1))).length ≤ big := Nat.le_trans (trB_len _) (by unfold big; omega)
            refine ⟨_, by omega, rfl, ifP_intro (fun g => by simp at g) fun _ => ⟨_, _, hl1, hl3, rfl, ifP_intro (fun g => ?_) fun g => ⟨_, _, hl1, hl3, rfl, ifP_intro (fun q => ?_) fun q => ?_⟩⟩⟩
            · have he : oneF (s.take i) = (⟨[], []⟩, 4) := by
                unfold oneF; rw [if_neg h2, hf2]; simp only
                rw [if_neg (by simpa using g)]
              exact accV_err (by rw [parS_some hf, if_neg hk, he, if_pos (by simp)]) (by omega)
            · have he : oneF (s.take i) = (⟨[], []⟩, 3) := by
                unfold oneF; rw [if_neg h2, hf2]; simp only
                rw [if_pos (by simpa using g), if_pos (by unfold longF; simp at q ⊢; omega)]
              exact accV_err (by rw [parS_some hf, if_neg hk, he, if_pos (by simp)]) (by omega)
            · have he : oneF (s.take i) = (⟨(s.take i).take j, trB ((s.take i).drop (j + 1))⟩, 0) := by
                unfold oneF; rw [if_neg h2, hf2]; simp only
                rw [if_pos (by simpa using g), if_neg (by unfold longF; simp at q ⊢; omega)]
              refine gAnd_intro ?_ (gAnd_intro ?_ ?_)
              · rw [encFs_len, tag_ok rfl, decide_eq_true (by omega)]; rfl
              · rw [encFs_one, low_encFs]; rfl
              · rw [accV_more hk hf (by rw [he]), encFs_one, he, encFs_len]
                have := ih (s.drop (i + 2)) (acc ++ [⟨(s.take i).take j, trB ((s.take i).drop (j + 1))⟩]) (by rw [List.length_drop]; omega) (by rw [List.length_drop]; omega) (by simp; omega)
                simpa using this
    · have hs : s = [] := by simpa using b
      subst hs; rw [stripss_encFs, parS_nil]; exact accV_nil acc
theorem accV_parse (s : List UInt8) : accV [] (parS 0 s) = .tup [.sl 2 (encFs (parseF s).1) none, .int .i64 (parseF s).2] := by
  have e : parS 0 s = parseF s := rfl; rw [e]; unfold accV
  by_cases h : (parseF s).2 = 0
  · rw [if_pos h, List.nil_append]
  · rw [if_neg h]
    have : (parseF s).1 = [] := by
      revert h; unfold parseF; rw [parF]; intro h; split at h
      · exact absurd rfl h
      · rename_i hs; rw [if_neg hs]
        cases hf : fnd crlf s with
        | none => rfl
        | some i =>
          rw [hf] at h; simp only at h ⊢
          repeat' split
          all_goals first | rfl | (simp_all)
    rw [this]
theorem c77 : COk cfg 77 parseC := by
  refine cok_pure pf77 fun vs h K ht => ?_
  obtain ⟨s, hl, rfl, hk⟩ := ht; rw [← accV_parse] at hk
  exact ⟨_, hk, t77a tab77 (loop77 s.length s [] (Nat.le_refl _) hl (by simp))⟩
theorem pre_at {s : List UInt8} {i : Nat} (h : i + 1 < s.length) : crlf.isPrefixOf (s.drop i) = true ↔ s.getD i 0 = 13 ∧ s.getD (i + 1) 0 = 10 := by
  have e : s.drop i = s[i] :: s[i + 1] :: s.drop (i + 1 + 1) := by
    rw [← List.drop_eq_getElem_cons h, ← List.drop_eq_getElem_cons (by omega)]
  rw [e]
  simp only [crlf, List.isPrefixOf, Bool.and_true, Bool.and_eq_true, beq_iff_eq, List.getD_eq_getElem?_getD, List.getElem?_eq_getElem h, List.getElem?_eq_getElem (show i < s.length by omega), Option.getD_some]
  constructor
  · rintro ⟨a, b⟩; exact ⟨a.symm, b.symm⟩
  · rintro ⟨a, b⟩; exact ⟨a.symm, b.symm⟩
theorem pre_end {s : List UInt8} {i : Nat} (h : ¬ i + 1 < s.length) : crlf.isPrefixOf (s.drop i) = false := by
  refine eq_false_of_ne_true fun hc => ?_
  have := (List.isPrefixOf_iff_prefix.1 hc).length_le; simp [crlf] at this; omega
theorem c136 : COk cfg 136 endsC := by
  refine cok_pure pf136 fun vs h K ht => ?_
  obtain ⟨s, n, hl, hn, rfl, hk⟩ := ht; refine ⟨_, hk, t136 (ctab_ok ctab_nil) ?_⟩; rw [wrap_n hn]
  refine ifP_intro (fun a => ?_) fun a => ?_
  · have ha : n + 1 < s.length := by simp only [decide_eq_true_eq] at a; omega
    have hp := pre_at ha
    have e1 : List.getD s (Int.toNat (n : Int)) 0 = s.getD n 0 := by simp
    have e2 : List.getD s (Int.toNat ((n + 1 : Nat) : Int)) 0 = s.getD (n + 1) 0 := by simp only [Int.toNat_natCast]
    rw [e1, e2]
    refine gAnd_intro (inR_nat (by omega)) (ifP_intro (fun b => gAnd_intro (inR_nat ha) (bool_av ?_)) fun b => ?_)
    · unfold endsB; rw [hp]; have h1 := ueq 13 rfl b; constructor
      · intro d; exact ⟨h1, ueq 10 rfl d⟩
      · rintro ⟨_, d⟩; rw [d]; rfl
    · unfold endsB
      rw [eq_false_of_ne_true (fun hc => une 13 rfl b (hp.1 hc).1)]
  · have ha : ¬ n + 1 < s.length := by simp only [decide_eq_false_iff_not] at a; omega
    unfold endsB; rw [pre_end ha]
theorem tab40 : TabOk cfg (ctab [(84, oneC)]) := ctab_ok (ctab_cons c84 ctab_nil)
theorem loop40 {s : List UInt8} (hl : s.length ≤ big) : ∀ (m i fr : Nat) (acc : List Fld) (g : Nat), i + m = s.length → fr ≤ s.length → acc.length ≤ 64 → (∀ j, fr ≤ j → j < i → crlf.isPrefixOf (s.drop j) = false) →
    ToEnd cfg 40 (bodyOf Tryz.f40) (RetIs Tryz.prog Tryz.f40 (accV acc (parS acc.length (s.drop fr)))) [.code [0, 1, 0, 1, 1, 1], .block 0, .code [1, 1, 1, 1]] .normal
      [(0, true, .str s), (4, true, .sl 2 (encFs acc) (some 1)), (5, true, .int .i64 fr), (6, true, .int .i64 i)] [.grow g 2 63, .grow acc.length 2 63] := by
  intro m
  have fin : ∀ (i fr : Nat) (acc : List Fld) (g : Nat), ¬ i + 1 < s.length → fr ≤ s.length → (∀ j, fr ≤ j → j < i → crlf.isPrefixOf (s.drop j) = false) →
      ifP (decide ((fr : Int) < (s.length : Int))) (AV.tup [.sl 2 [] none, .int .i64 4] = accV acc (parS acc.length (s.drop fr))) (AV.tup [.sl 2 (stripss 0 [.grow g 2 63, .grow acc.length 2 63] (encFs acc)) none, .int .i64 0] = accV acc (parS acc.length (s.drop fr))) := by
    intro i fr acc g hi hfr hno
    refine ifP_intro (fun a => ?_) fun a => ?_
    · have ha : fr < s.length := by simp only [decide_eq_true_eq] at a; omega
      refine accV_err (parS_none (fun h => ?_) (fnd_no (fun j hj => ?_) crlf_ne)) (by omega)
      · have := congrArg List.length h; simp at this; omega
      · rw [List.drop_drop]
        rcases Nat.lt_or_ge (fr + j) i with h | h
        · exact hno _ (by omega) h
        · exact pre_end (by omega)
    · have ha : s.length ≤ fr := by simp only [decide_eq_false_iff_not] at a; omega
      rw [stripss_encFs, List.drop_eq_nil_of_le ha, parS_nil]; exact accV_nil acc
  induction m with
  | zero =>
    intro i fr acc g hi hfr ha hno
    have hib : i ≤ big := by omega
    refine t40b tab40 ?_; rw [wrap_b hib]
    refine ifP_intro (fun a => ?_) fun a => fin i fr acc g (by omega) hfr hno
    simp only [decide_eq_true_eq] at a; omega
  | succ m ih =>
    intro i fr acc g hi hfr ha hno
    have hib : i ≤ big := by omega
    refine t40b tab40 ?_; rw [wrap_b hib]
    refine ifP_intro (fun a => ?_) fun a => fin i fr acc g (by simp only [decide_eq_false_iff_not] at a; omega) hfr hno
    have hi1 : i + 1 < s.length := by simp only [decide_eq_true_eq] at a; omega
    have e1 : List.getD s (Int.toNat (i : Int)) 0 = s.getD i 0 := by simp
    have e2 : List.getD s (Int.toNat ((i + 1 : Nat) : Int)) 0 = s.getD (i + 1) 0 := by simp only [Int.toNat_natCast]
    have hp := pre_at hi1; rw [e1, e2]
    have skip := fun (h : fr ≤ i → crlf.isPrefixOf (s.drop i) = false) => ih (i + 1) fr acc g (by omega) hfr ha (fun j h1 h2 => by
      rcases Nat.lt_or_ge j i with h3 | h3
      · exact hno j h1 h3
      · have : j = i := by omega
        subst this; exact h h1)
    refine ifP_intro (fun b => gAnd_intro (by rw [low_encFs]; rfl) ?_) fun b => gAnd_intro (inR_nat (by omega)) (ifP_intro (fun c => gAnd_intro (by rw [low_encFs]; rfl) ?_) fun c => gAnd_intro (inR_nat hi1) (ifP_intro (fun d => gAnd_intro (by rw [low_encFs]; rfl) ?_) fun d => ?_))
    · simp only [decide_eq_true_eq] at b
      exact skip (fun h => by omega)
    · exact skip (fun _ => eq_false_of_ne_true fun hc => unq 13 rfl c (hp.1 hc).1)
    · exact skip (fun _ => eq_false_of_ne_true fun hc => unq 10 rfl d (hp.1 hc).2)
    · have hfi : fr ≤ i := by simp only [decide_eq_false_iff_not] at b; omega
      have hat := hp.2 ⟨unq' 13 rfl c, unq' 10 rfl d⟩
      have hf : fnd crlf (s.drop fr) = some (i - fr) := fnd_of (by rw [List.drop_drop, show fr + (i - fr) = i by omega]; exact hat) (fun j hj => by rw [List.drop_drop]; exact hno _ (by omega) (by omega)) crlf_ne
      have hcut : cutL s (some (fr : Int)) (some (i : Int)) = (s.drop fr).take (i - fr) := by
        simp only [cutL, Int.toNat_natCast]; rw [List.drop_take]
      have hdr : (s.drop fr).drop (i - fr + 2) = s.drop (i + 2) := by rw [List.drop_drop]; congr 1; omega
      refine ifP_intro (fun q => ?_) fun q => gAnd_intro (by simp [cutOb]; omega) ⟨_, by rw [hcut, List.length_take, List.length_drop]; unfold big at hl; omega, rfl, ?_⟩
      · have hk : 64 ≤ acc.length := by rw [encFs_len] at q; simp at q; omega
        exact accV_err (by rw [parS_some hf, if_pos hk]) (by omega)
      · have hk : ¬ 64 ≤ acc.length := by rw [encFs_len] at q; simp at q; omega
        rw [hcut]
        refine ifP_intro (fun z => ?_) fun z => ?_
        · have hz : (oneF ((s.drop fr).take (i - fr))).2 ≠ 0 := ne_of_bne z
          exact accV_err (by rw [parS_some hf, if_neg hk, if_pos hz]) hz
        · have hz : (oneF ((s.drop fr).take (i - fr))).2 = 0 := eq_of_bne z
          have hw : IntKind.wrap .i64 ((i : Int) + 2) = ((i + 2 : Nat) : Int) := by unfold big at hib; rw [wrap_in (by omega) (by omega)]; omega
          refine gAnd_intro ?_ (gAnd_intro ?_ ?_)
          · rw [encFs_len, tag_ok rfl, decide_eq_true (by omega)]; rfl
          · rw [encFs_one, low_encFs]; rfl
          · rw [accV_more hk hf hz, encFs_one, encFs_len, hw, hdr]
            have := ih (i + 1) (i + 2) (acc ++ [(oneF ((s.drop fr).take (i - fr))).1]) g (by omega) (by omega) (by simp; omega) (fun j h1 h2 => by omega)
            simpa using this
theorem c40 : COk cfg 40 parseC := by
  refine cok_pure pf40 fun vs h K ht => ?_
  obtain ⟨s, hl, rfl, hk⟩ := ht; rw [← accV_parse] at hk
  exact ⟨_, hk, t40a tab40 (loop40 hl s.length 0 0 [] 0 (by omega) (Nat.zero_le _) (by simp) (fun j _ h => by omega))⟩
def hexI (n : Int) : Int := if 48 ≤ n ∧ n ≤ 57 then n - 48 else if 97 ≤ n ∧ n ≤ 102 then n - 87 else if 65 ≤ n ∧ n ≤ 70 then n - 55 else -1
theorem hexI_of (c : UInt8) : (if hexB c = true then ((hexD c : Nat) : Int) else -1) = hexI c.toNat := by
  unfold hexB hexD hexI; simp only [Bool.or_eq_true, Bool.and_eq_true, decide_eq_true_eq]; have := c.toNat_lt
  repeat' split
  all_goals omega
theorem c160 : COk cfg 160 hexDC := by
  refine cok_pure pf160 fun vs h K ht => ?_
  obtain ⟨c, rfl, hk⟩ := ht; refine ⟨_, hk, t160 (ctab_ok ctab_nil) ?_⟩; rw [hexI_of]; have hc := c.toNat_lt
  repeat' refine ifP_intro (fun _ => ?_) fun _ => ?_
  all_goals
    simp only [ge_iff_le, decide_eq_true_eq, decide_eq_false_iff_not] at *
    congr 1
    unfold hexI
    (try simp only [IntKind.wrap_u8, IntKind.wrap_i64])
    repeat' split
    all_goals omega
end Go.Proofs.YtnncfdlpogjlkaaGreatDoor
end
section
namespace Go.Proofs.YtnncfdlpogjlkaaGreatDoor
open Go.Ai Go
set_option maxRecDepth 100000
open Go.IntKind (wrap i64 u8)
open Go.Ai.AV (int str sl tup bool agg ptr)
open Go.Ai.Blk (mem grow)
open Go.Ai.Fm (code block loop)
open Go.Ai.XT (normal)
open List (length)
open Prod (fst snd)
open UInt8 (toNat)
open Tryz (prog f124 f134 f135 f137 f158 f180)
theorem t180a {v : AV} {s : List UInt8} (hT : TabOk cfg (ctab [(191, lowerBC)])) (H : ifP (s == []) False (gAnd (Nat.ble (length s) 140737488355328) (ToEnd cfg 180 (bodyOf f180) (RetIs prog f180 v) [code [0, 1, 0, 1, 1, 1, 1, 1, 1, 1, 1, 1, 1, 1], block 3, code [1, 1, 1, 1, 1, 1, 1, 1, 1, 1, 1, 1]] normal [(1, true, int i64 16), (8, true, bool false), (9, true, str s), (10, true, int IntKind.u64 1152921504606846976), (11, true, int IntKind.u64 18446744073709551615), (12, true, bool false), (13, true, int IntKind.u64 0), (99, true, AV.osl 0 0 (length s) 1), (100, true, int i64 (↑(length s) : Int)), (101, true, int i64 0)] [mem 5 (List.map (fun (b : UInt8) ↦ int u8 (↑(toNat b) : Int)) s)]))) : ToEnd cfg 180 (bodyOf f180) (RetIs prog f180 v) ([.code []]) .normal ([(0, true, .str s), (1, true, .int .i64 16), (2, true, .int .i64 64)]) ([]) := by
  exact unr_ok (pl := ⟨[[0, 1, 0, 1, 1, 1, 1, 1, 1, 1, 1, 1, 1, 1]], []⟩) hT 100000 _ _ _ _ (unr_use H (by kernel_rfl))
theorem t180b {v : AV} {s : List UInt8} {N : Nat} {n i len : Int} {cs : List AV} (hT : TabOk cfg (ctab [(191, lowerBC)])) (H : ifP (decide (i < len)) (gAnd (inR i N && true && true) (∃ (z1 : Int), List.take 1 (List.drop (0 + Int.toNat i * 1) cs) = [int u8 z1] ∧ ifP (z1 == 95) (ifP (decide (48 ≤ z1)) (ifP (decide (z1 ≤ 57)) (ifP (decide (wrap u8 (z1 - 48) ≥ 16)) False (ifP (decide (n ≥ 1152921504606846976)) False (ifP (decide (wrap IntKind.u64 (wrap IntKind.u64 (n * 16) + wrap IntKind.u64 (wrap u8 (z1 - 48))) < wrap IntKind.u64 (n * 16))) False (ifP (decide (wrap IntKind.u64 (wrap IntKind.u64 (n * 16) + wrap IntKind.u64 (wrap u8 (z1 - 48))) > 18446744073709551615)) False (ToEnd cfg 180 (bodyOf f180) (RetIs prog f180 v) [code [0, 1, 0, 1, 1, 1, 1, 1, 1, 1, 1, 1, 1, 1], block 3, code [1, 1, 1, 1, 1, 1, 1, 1, 1, 1, 1, 1]] normal [(1, true, int i64 16), (8, true, bool false), (9, true, str s), (10, true, int IntKind.u64 1152921504606846976), (11, true, int IntKind.u64 18446744073709551615), (12, true, bool false), (13, true, int IntKind.u64 (wrap IntKind.u64 (wrap IntKind.u64 (n * 16) + wrap IntKind.u64 (wrap u8 (z1 - 48))))), (99, true, AV.osl 0 0 N 1), (100, true, int i64 len), (101, true, int i64 (wrap i64 (i + 1)))] [mem 5 cs]))))) (∃ (c2 : UInt8), [int u8 z1] = [int u8 (↑(toNat c2) : Int)] ∧ ifP (decide (97 ≤ (↑(toNat (c2 ||| 32)) : Int))) (∃ (c3 : UInt8), [int u8 z1] = [int u8 (↑(toNat c3) : Int)] ∧ ifP (decide ((↑(toNat (c3 ||| 32)) : Int) ≤ 122)) (∃ (c4 : UInt8), [int u8 z1] = [int u8 (↑(toNat c4) : Int)] ∧ ifP (decide (wrap u8 (wrap u8 ((↑(toNat (c4 ||| 32)) : Int) - 97) + 10) ≥ 16)) False (ifP (decide (n ≥ 1152921504606846976)) False (ifP (decide (wrap IntKind.u64 (wrap IntKind.u64 (n * 16) + wrap IntKind.u64 (wrap u8 (wrap u8 ((↑(toNat (c4 ||| 32)) : Int) - 97) + 10))) < wrap IntKind.u64 (n * 16))) False (ifP (decide (wrap IntKind.u64 (wrap IntKind.u64 (n * 16) + wrap IntKind.u64 (wrap u8 (wrap u8 ((↑(toNat (c4 ||| 32)) : Int) - 97) + 10))) > 18446744073709551615)) False (ToEnd cfg 180 (bodyOf f180) (RetIs prog f180 v) [code [0, 1, 0, 1, 1, 1, 1, 1, 1, 1, 1, 1, 1, 1], block 3, code [1, 1, 1, 1, 1, 1, 1, 1, 1, 1, 1, 1]] normal [(1, true, int i64 16), (8, true, bool false), (9, true, str s), (10, true, int IntKind.u64 1152921504606846976), (11, true, int IntKind.u64 18446744073709551615), (12, true, bool false), (13, true, int IntKind.u64 (wrap IntKind.u64 (wrap IntKind.u64 (n * 16) + wrap IntKind.u64 (wrap u8 (wrap u8 ((↑(toNat (c4 ||| 32)) : Int) - 97) + 10))))), (99, true, AV.osl 0 0 N 1), (100, true, int i64 len), (101, true, int i64 (wrap i64 (i + 1)))] [mem 5 cs]))))) False) False)) (∃ (c5 : UInt8), [int u8 z1] = [int u8 (↑(toNat c5) : Int)] ∧ ifP (decide (97 ≤ (↑(toNat (c5 ||| 32)) : Int))) (∃ (c6 : UInt8), [int u8 z1] = [int u8 (↑(toNat c6) : Int)] ∧ ifP (decide ((↑(toNat (c6 ||| 32)) : Int) ≤ 122)) (∃ (c7 : UInt8), [int u8 z1] = [int u8 (↑(toNat c7) : Int)] ∧ ifP (decide (wrap u8 (wrap u8 ((↑(toNat (c7 ||| 32)) : Int) - 97) + 10) ≥ 16)) False (ifP (decide (n ≥ 1152921504606846976)) False (ifP (decide (wrap IntKind.u64 (wrap IntKind.u64 (n * 16) + wrap IntKind.u64 (wrap u8 (wrap u8 ((↑(toNat (c7 ||| 32)) : Int) - 97) + 10))) < wrap IntKind.u64 (n * 16))) False (ifP (decide (wrap IntKind.u64 (wrap IntKind.u64 (n * 16) + wrap IntKind.u64 (wrap u8 (wrap u8 ((↑(toNat (c7 ||| 32)) : Int) - 97) + 10))) > 18446744073709551615)) False (ToEnd cfg 180 (bodyOf f180) (RetIs prog f180 v) [code [0, 1, 0, 1, 1, 1, 1, 1, 1, 1, 1, 1, 1, 1], block 3, code [1, 1, 1, 1, 1, 1, 1, 1, 1, 1, 1, 1]] normal [(1, true, int i64 16), (8, true, bool false), (9, true, str s), (10, true, int IntKind.u64 1152921504606846976), (11, true, int IntKind.u64 18446744073709551615), (12, true, bool false), (13, true, int IntKind.u64 (wrap IntKind.u64 (wrap IntKind.u64 (n * 16) + wrap IntKind.u64 (wrap u8 (wrap u8 ((↑(toNat (c7 ||| 32)) : Int) - 97) + 10))))), (99, true, AV.osl 0 0 N 1), (100, true, int i64 len), (101, true, int i64 (wrap i64 (i + 1)))] [mem 5 cs]))))) False) False)) (ifP (decide (48 ≤ z1)) (ifP (decide (z1 ≤ 57)) (ifP (decide (wrap u8 (z1 - 48) ≥ 16)) False (ifP (decide (n ≥ 1152921504606846976)) False (ifP (decide (wrap IntKind.u64 (wrap IntKind.u64 (n * 16) + wrap IntKind.u64 (wrap u8 (z1 - 48))) < wrap IntKind.u64 (n * 16))) False (ifP (decide (wrap IntKind.u64 (wrap IntKind.u64 (n * 16) + wrap IntKind.u64 (wrap u8 (z1 - 48))) > 18446744073709551615)) False (ToEnd cfg 180 (bodyOf f180) (RetIs prog f180 v) [code [0, 1, 0, 1, 1, 1, 1, 1, 1, 1, 1, 1, 1, 1], block 3, code [1, 1, 1, 1, 1, 1, 1, 1, 1, 1, 1, 1]] normal [(1, true, int i64 16), (8, true, bool false), (9, true, str s), (10, true, int IntKind.u64 1152921504606846976), (11, true, int IntKind.u64 18446744073709551615), (12, true, bool false), (13, true, int IntKind.u64 (wrap IntKind.u64 (wrap IntKind.u64 (n * 16) + wrap IntKind.u64 (wrap u8 (z1 - 48))))), (99, true, AV.osl 0 0 N 1), (100, true, int i64 len), (101, true, int i64 (wrap i64 (i + 1)))] [mem 5 cs]))))) (∃ (c8 : UInt8), [int u8 z1] = [int u8 (↑(toNat c8) : Int)] ∧ ifP (decide (97 ≤ (↑(toNat (c8 ||| 32)) : Int))) (∃ (c9 : UInt8), [int u8 z1] = [int u8 (↑(toNat c9) : Int)] ∧ ifP (decide ((↑(toNat (c9 ||| 32)) : Int) ≤ 122)) (∃ (c10 : UInt8), [int u8 z1] = [int u8 (↑(toNat c10) : Int)] ∧ ifP (decide (wrap u8 (wrap u8 ((↑(toNat (c10 ||| 32)) : Int) - 97) + 10) ≥ 16)) False (ifP (decide (n ≥ 1152921504606846976)) False (ifP (decide (wrap IntKind.u64 (wrap IntKind.u64 (n * 16) + wrap IntKind.u64 (wrap u8 (wrap u8 ((↑(toNat (c10 ||| 32)) : Int) - 97) + 10))) < wrap IntKind.u64 (n * 16))) False (ifP (decide (wrap IntKind.u64 (wrap IntKind.u64 (n * 16) + wrap IntKind.u64 (wrap u8 (wrap u8 ((↑(toNat (c10 ||| 32)) : Int) - 97) + 10))) > 18446744073709551615)) False (ToEnd cfg 180 (bodyOf f180) (RetIs prog f180 v) [code [0, 1, 0, 1, 1, 1, 1, 1, 1, 1, 1, 1, 1, 1], block 3, code [1, 1, 1, 1, 1, 1, 1, 1, 1, 1, 1, 1]] normal [(1, true, int i64 16), (8, true, bool false), (9, true, str s), (10, true, int IntKind.u64 1152921504606846976), (11, true, int IntKind.u64 18446744073709551615), (12, true, bool false), (13, true, int IntKind.u64 (wrap IntKind.u64 (wrap IntKind.u64 (n * 16) + wrap IntKind.u64 (wrap u8 (wrap u8 ((↑(toNat (c10 ||| 32)) : Int) - 97) + 10))))), (99, true, AV.osl 0 0 N 1), (100, true, int i64 len), (101, true, int i64 (wrap i64 (i + 1)))] [mem 5 cs]))))) False) False)) (∃ (c11 : UInt8), [int u8 z1] = [int u8 (↑(toNat c11) : Int)] ∧ ifP (decide (97 ≤ (↑(toNat (c11 ||| 32)) : Int))) (∃ (c12 : UInt8), [int u8 z1] = [int u8 (↑(toNat c12) : Int)] ∧ ifP (decide ((↑(toNat (c12 ||| 32)) : Int) ≤ 122)) (∃ (c13 : UInt8), [int u8 z1] = [int u8 (↑(toNat c13) : Int)] ∧ ifP (decide (wrap u8 (wrap u8 ((↑(toNat (c13 ||| 32)) : Int) - 97) + 10) ≥ 16)) False (ifP (decide (n ≥ 1152921504606846976)) False (ifP (decide (wrap IntKind.u64 (wrap IntKind.u64 (n * 16) + wrap IntKind.u64 (wrap u8 (wrap u8 ((↑(toNat (c13 ||| 32)) : Int) - 97) + 10))) < wrap IntKind.u64 (n * 16))) False (ifP (decide (wrap IntKind.u64 (wrap IntKind.u64 (n * 16) + wrap IntKind.u64 (wrap u8 (wrap u8 ((↑(toNat (c13 ||| 32)) : Int) - 97) + 10))) > 18446744073709551615)) False (ToEnd cfg 180 (bodyOf f180) (RetIs prog f180 v) [code [0, 1, 0, 1, 1, 1, 1, 1, 1, 1, 1, 1, 1, 1], block 3, code [1, 1, 1, 1, 1, 1, 1, 1, 1, 1, 1, 1]] normal [(1, true, int i64 16), (8, true, bool false), (9, true, str s), (10, true, int IntKind.u64 1152921504606846976), (11, true, int IntKind.u64 18446744073709551615), (12, true, bool false), (13, true, int IntKind.u64 (wrap IntKind.u64 (wrap IntKind.u64 (n * 16) + wrap IntKind.u64 (wrap u8 (wrap u8 ((↑(toNat (c13 ||| 32)) : Int) - 97) + 10))))), (99, true, AV.osl 0 0 N 1), (100, true, int i64 len), (101, true, int i64 (wrap i64 (i + 1)))] [mem 5 cs]))))) False) False)))) (tup [int IntKind.u64 n, AV.nili] = v)) : ToEnd cfg 180 (bodyOf f180) (RetIs prog f180 v) ([.code [0, 1, 0, 1, 1, 1, 1, 1, 1, 1, 1, 1, 1, 1], .block 3, .code [1, 1, 1, 1, 1, 1, 1, 1, 1, 1, 1, 1]]) .normal ([(1, true, .int .i64 16), (8, true, .bool false), (9, true, .str s), (10, true, .int .u64 1152921504606846976), (11, true, .int .u64 18446744073709551615), (12, true, .bool false), (13, true, .int .u64 n), (99, true, .osl 0 0 N 1), (100, true, .int .i64 len), (101, true, .int .i64 i)]) ([.mem 5 cs]) := by
  exact ends_round (pl := ⟨[[0, 1, 0, 1, 1, 1, 1, 1, 1, 1, 1, 1, 1, 1]], [([0, 0, 0, 1, 1, 0, 0, 1, 0, 1, 1, 1, 1, 1, 1, 1, 1, 1, 1, 1], 1, [.int .u8])]⟩) hT 100000 (by kernel_rfl) (unr_use H (by kernel_rfl))
theorem t158 {v : AV} {s : List UInt8} (hT : TabOk cfg (ctab [(180, puC)])) (H : ∃ (s1 : List UInt8), (s1 ≠ [] ∧ length s1 ≤ 8 ∧ List.all s1 hexB = true) ∧ [str s, int i64 16, int i64 64] = [str s1, int i64 16, int i64 64] ∧ tup [int IntKind.u64 (↑(hexV 0 s1) : Int), AV.nili] = v) : ToEnd cfg 158 (bodyOf f158) (RetIs prog f158 v) ([.code []]) .normal ([(0, true, .str s), (1, true, .int .i64 16), (2, true, .int .i64 64)]) ([]) := by
  exact unr_ok (pl := ⟨[], []⟩) hT 100000 _ _ _ _ (unr_use H (by kernel_rfl))
theorem t124a {v : AV} {s : List UInt8} (hT : TabOk cfg (ctab [(70, cutGC), (155, trimSC), (158, puC)])) (H : ∃ (s1 : List UInt8) (x2 : List UInt8), length s1 ≤ 10000000 ∧ [str s, str [59]] = [str s1, str x2] ∧ ifP (fst (cutS s1 x2) == []) (tup [int i64 0, int i64 4] = v) (ifP (decide ((↑(length (fst (cutS s1 x2))) : Int) > 8)) (tup [int i64 0, int i64 4] = v) (∃ (s3 : List UInt8) (cs4 : List UInt8), length s3 ≤ 10000000 ∧ length cs4 ≤ 100 ∧ (List.all cs4 fun (b : UInt8) ↦ Nat.blt (toNat b) 128) = true ∧ [str (fst (cutS s1 x2)), str [48, 49, 50, 51, 52, 53, 54, 55, 56, 57, 97, 98, 99, 100, 101, 102, 65, 66, 67, 68, 69, 70]] = [str s3, str cs4] ∧ ifP (!Lib.trimS s3 cs4 == []) (tup [int i64 0, int i64 4] = v) (ToEnd cfg 124 (bodyOf f124) (RetIs prog f124 v) [code [0, 1, 0, 1, 1, 1], block 0, code [1, 1, 1, 1]] normal [(4, true, str (fst (cutS s1 x2))), (5, true, str (fst (snd (cutS s1 x2)))), (30, true, int i64 (↑(length (fst (snd (cutS s1 x2)))) : Int)), (31, true, int i64 0)] [])))) : ToEnd cfg 124 (bodyOf f124) (RetIs prog f124 v) ([.code []]) .normal ([(0, true, .str s)]) ([]) := by
  exact unr_ok (pl := ⟨[[0, 1, 0, 1, 1, 1]], []⟩) hT 100000 _ _ _ _ (unr_use H (by kernel_rfl))
theorem t124b {v : AV}  {s4 : List UInt8} {s5 : List UInt8} {i30 : Int} {i31 : Int} (hT : TabOk cfg (ctab [(70, cutGC), (155, trimSC), (158, puC)])) (H : ifP (decide (i31 < i30)) (gAnd (inR i31 (length s5)) (ifP ((↑(toNat (List.getD s5 (Int.toNat i31) 0)) : Int) != 9) (ifP (decide ((↑(toNat (List.getD s5 (Int.toNat i31) 0)) : Int) < 32)) (tup [int i64 0, int i64 4] = v) (ifP (decide ((↑(toNat (List.getD s5 (Int.toNat i31) 0)) : Int) > 126)) (tup [int i64 0, int i64 4] = v) (ToEnd cfg 124 (bodyOf f124) (RetIs prog f124 v) [code [0, 1, 0, 1, 1, 1], block 0, code [1, 1, 1, 1]] normal [(4, true, str s4), (5, true, str s5), (30, true, int i64 i30), (31, true, int i64 (wrap i64 (i31 + 1)))] []))) (ToEnd cfg 124 (bodyOf f124) (RetIs prog f124 v) [code [0, 1, 0, 1, 1, 1], block 0, code [1, 1, 1, 1]] normal [(4, true, str s4), (5, true, str s5), (30, true, int i64 i30), (31, true, int i64 (wrap i64 (i31 + 1)))] []))) (∃ (s1 : List UInt8), (s1 ≠ [] ∧ length s1 ≤ 8 ∧ List.all s1 hexB = true) ∧ [str s4, int i64 16, int i64 64] = [str s1, int i64 16, int i64 64] ∧ tup [int i64 (wrap i64 (↑(hexV 0 s1) : Int)), int i64 0] = v)) : ToEnd cfg 124 (bodyOf f124) (RetIs prog f124 v) ([.code [0, 1, 0, 1, 1, 1], block 0, code [1, 1, 1, 1]]) .normal ([(4, true, str s4), (5, true, str s5), (30, true, int i64 i30), (31, true, int i64 i31)]) ([]) := by
  exact ends_round (pl := ⟨[[0, 1, 0, 1, 1, 1]], []⟩) hT 100000 (by kernel_rfl) (unr_use H (by kernel_rfl))
theorem t135a {v : AV} {s : List UInt8} (hT : TabOk cfg (ctab [(160, hexDC)])) (H : ToEnd cfg 135 (bodyOf f135) (RetIs prog f135 v) [code [0, 0, 1, 1, 1], block 0, code [1, 1, 1, 1]] normal [(0, true, str s), (3, true, int i64 0), (4, true, int i64 0)] []) : ToEnd cfg 135 (bodyOf f135) (RetIs prog f135 v) ([.code []]) .normal ([(0, true, .str s)]) ([]) := by
  exact unr_ok (pl := ⟨[[0, 0, 1, 1, 1], [0, 1, 0, 1, 1, 1, 1, 1]], []⟩) hT 100000 _ _ _ _ (unr_use H (by kernel_rfl))
theorem t135b {v : AV}  {s0 : List UInt8} {i3 : Int} {i4 : Int} (hT : TabOk cfg (ctab [(160, hexDC)])) (H : ifP (decide (i4 < (↑(length s0) : Int))) (gAnd (inR i4 (length s0)) (∃ (c1 : UInt8), [int u8 (↑(toNat (List.getD s0 (Int.toNat i4) 0)) : Int)] = [int u8 (↑(toNat c1) : Int)] ∧ ifP (decide ((if hexB c1 = true then (↑(hexD c1) : Int) else -1) ≥ 0)) (ifP (decide (i4 < 9)) (gAnd (inR i4 (length s0)) (∃ (c2 : UInt8), [int u8 (↑(toNat (List.getD s0 (Int.toNat i4) 0)) : Int)] = [int u8 (↑(toNat c2) : Int)] ∧ ToEnd cfg 135 (bodyOf f135) (RetIs prog f135 v) [code [0, 0, 1, 1, 1], block 0, code [1, 1, 1, 1]] normal [(0, true, str s0), (3, true, int i64 (wrap i64 (wrap i64 (16 * i3) + if hexB c2 = true then (↑(hexD c2) : Int) else -1))), (4, true, int i64 (wrap i64 (i4 + 1)))] [])) (ifP (i4 == 0) (int i64 (-1) = v) (ifP (decide (i4 > 8)) (int i64 (-1) = v) (ifP (decide (i4 < (↑(length s0) : Int))) (gAnd (inR i4 (length s0)) (ifP ((↑(toNat (List.getD s0 (Int.toNat i4) 0)) : Int) != 59) (int i64 (-1) = v) (ToEnd cfg 135 (bodyOf f135) (RetIs prog f135 v) [code [0, 1, 0, 1, 1, 1, 1, 1], block 2, code [1, 1, 1, 1, 1, 1]] normal [(0, true, str s0), (3, true, int i64 i3), (5, true, int i64 (wrap i64 (i4 + 1)))] []))) (ToEnd cfg 135 (bodyOf f135) (RetIs prog f135 v) [code [0, 1, 0, 1, 1, 1, 1, 1], block 2, code [1, 1, 1, 1, 1, 1]] normal [(0, true, str s0), (3, true, int i64 i3), (5, true, int i64 (wrap i64 (i4 + 1)))] []))))) (ifP (i4 == 0) (int i64 (-1) = v) (ifP (decide (i4 > 8)) (int i64 (-1) = v) (ifP (decide (i4 < (↑(length s0) : Int))) (gAnd (inR i4 (length s0)) (ifP ((↑(toNat (List.getD s0 (Int.toNat i4) 0)) : Int) != 59) (int i64 (-1) = v) (ToEnd cfg 135 (bodyOf f135) (RetIs prog f135 v) [code [0, 1, 0, 1, 1, 1, 1, 1], block 2, code [1, 1, 1, 1, 1, 1]] normal [(0, true, str s0), (3, true, int i64 i3), (5, true, int i64 (wrap i64 (i4 + 1)))] []))) (ToEnd cfg 135 (bodyOf f135) (RetIs prog f135 v) [code [0, 1, 0, 1, 1, 1, 1, 1], block 2, code [1, 1, 1, 1, 1, 1]] normal [(0, true, str s0), (3, true, int i64 i3), (5, true, int i64 (wrap i64 (i4 + 1)))] [])))))) (ifP (i4 == 0) (int i64 (-1) = v) (ifP (decide (i4 > 8)) (int i64 (-1) = v) (ifP (decide (i4 < (↑(length s0) : Int))) (gAnd (inR i4 (length s0)) (ifP ((↑(toNat (List.getD s0 (Int.toNat i4) 0)) : Int) != 59) (int i64 (-1) = v) (ToEnd cfg 135 (bodyOf f135) (RetIs prog f135 v) [code [0, 1, 0, 1, 1, 1, 1, 1], block 2, code [1, 1, 1, 1, 1, 1]] normal [(0, true, str s0), (3, true, int i64 i3), (5, true, int i64 (wrap i64 (i4 + 1)))] []))) (ToEnd cfg 135 (bodyOf f135) (RetIs prog f135 v) [code [0, 1, 0, 1, 1, 1, 1, 1], block 2, code [1, 1, 1, 1, 1, 1]] normal [(0, true, str s0), (3, true, int i64 i3), (5, true, int i64 (wrap i64 (i4 + 1)))] []))))) : ToEnd cfg 135 (bodyOf f135) (RetIs prog f135 v) ([.code [0, 0, 1, 1, 1], block 0, code [1, 1, 1, 1]]) .normal ([(0, true, str s0), (3, true, int i64 i3), (4, true, int i64 i4)]) ([]) := by
  exact ends_round (pl := ⟨[[0, 0, 1, 1, 1], [0, 1, 0, 1, 1, 1, 1, 1]], []⟩) hT 100000 (by kernel_rfl) (unr_use H (by kernel_rfl))
theorem t135c {v : AV}  {s0 : List UInt8} {i3 : Int}  {i5 : Int} (hT : TabOk cfg (ctab [(160, hexDC)])) (H : ifP (decide (i5 < (↑(length s0) : Int))) (gAnd (inR i5 (length s0)) (ifP ((↑(toNat (List.getD s0 (Int.toNat i5) 0)) : Int) != 9) (gAnd (inR i5 (length s0)) (ifP (decide ((↑(toNat (List.getD s0 (Int.toNat i5) 0)) : Int) < 32)) (int i64 (-1) = v) (gAnd (inR i5 (length s0)) (ifP (decide ((↑(toNat (List.getD s0 (Int.toNat i5) 0)) : Int) > 126)) (int i64 (-1) = v) (ToEnd cfg 135 (bodyOf f135) (RetIs prog f135 v) [code [0, 1, 0, 1, 1, 1, 1, 1], block 2, code [1, 1, 1, 1, 1, 1]] normal [(0, true, str s0), (3, true, int i64 i3), (5, true, int i64 (wrap i64 (i5 + 1)))] []))))) (ToEnd cfg 135 (bodyOf f135) (RetIs prog f135 v) [code [0, 1, 0, 1, 1, 1, 1, 1], block 2, code [1, 1, 1, 1, 1, 1]] normal [(0, true, str s0), (3, true, int i64 i3), (5, true, int i64 (wrap i64 (i5 + 1)))] []))) (int i64 i3 = v)) : ToEnd cfg 135 (bodyOf f135) (RetIs prog f135 v) ([.code [0, 1, 0, 1, 1, 1, 1, 1], block 2, code [1, 1, 1, 1, 1, 1]]) .normal ([(0, true, str s0), (3, true, int i64 i3), (5, true, int i64 i5)]) ([]) := by
  exact ends_round (pl := ⟨[[0, 0, 1, 1, 1], [0, 1, 0, 1, 1, 1, 1, 1]], []⟩) hT 100000 (by kernel_rfl) (unr_use H (by kernel_rfl))
theorem t134a {v : AV} {s : List UInt8} {n : Int} (hT : TabOk cfg (ctab [(136, endsC)])) (H : ToEnd cfg 134 (bodyOf f134) (RetIs prog f134 v) [code [0, 1, 0, 1], block 0, code [1, 1]] normal [(0, true, str s), (1, true, int i64 n), (6, true, int i64 n)] []) : ToEnd cfg 134 (bodyOf f134) (RetIs prog f134 v) ([.code []]) .normal ([(0, true, .str s), (1, true, .int .i64 n)]) ([]) := by
  exact unr_ok (pl := ⟨[[0, 1, 0, 1]], []⟩) hT 100000 _ _ _ _ (unr_use H (by kernel_rfl))
theorem t134b {v : AV}   {s0 : List UInt8} {i1 : Int} {i6 : Int} (hT : TabOk cfg (ctab [(136, endsC)])) (H : ifP (decide (i6 ≤ wrap i64 (i1 + 2048))) (∃ (s1 : List UInt8) (n2 : Nat), length s1 ≤ 10000000 ∧ n2 ≤ 10000000 ∧ [str s0, int i64 i6] = [str s1, int i64 (↑n2 : Int)] ∧ ifP (endsB s1 n2) (tup [int i64 i6, int i64 0] = v) (ToEnd cfg 134 (bodyOf f134) (RetIs prog f134 v) [code [0, 1, 0, 1], block 0, code [1, 1]] normal [(0, true, str s0), (1, true, int i64 i1), (6, true, int i64 (wrap i64 (i6 + 1)))] [])) (ifP (decide (wrap i64 ((↑(length s0) : Int) - i1) ≥ 2050)) (tup [int i64 0, int i64 3] = v) (tup [int i64 0, int i64 6] = v))) : ToEnd cfg 134 (bodyOf f134) (RetIs prog f134 v) ([.code [0, 1, 0, 1], block 0, code [1, 1]]) .normal ([(0, true, str s0), (1, true, int i64 i1), (6, true, int i64 i6)]) ([]) := by
  exact ends_round (pl := ⟨[[0, 1, 0, 1]], []⟩) hT 100000 (by kernel_rfl) (unr_use H (by kernel_rfl))
theorem t137a {v : AV} {s : List UInt8} {n : Int} (hT : TabOk cfg (ctab [(136, endsC)])) (H : ∃ (s1 : List UInt8) (n2 : Nat), length s1 ≤ 10000000 ∧ n2 ≤ 10000000 ∧ [str s, int i64 n] = [str s1, int i64 (↑n2 : Int)] ∧ ifP (endsB s1 n2) (tup [int i64 (wrap i64 (n + 2)), int i64 0] = v) (ToEnd cfg 137 (bodyOf f137) (RetIs prog f137 v) [code [0, 1, 0, 1, 1], block 0, code [1, 1, 1]] normal [(0, true, str s), (1, true, int i64 n), (6, true, int i64 n)] [])) : ToEnd cfg 137 (bodyOf f137) (RetIs prog f137 v) ([.code []]) .normal ([(0, true, .str s), (1, true, .int .i64 n)]) ([]) := by
  exact unr_ok (pl := ⟨[[0, 1, 0, 1, 1]], []⟩) hT 100000 _ _ _ _ (unr_use H (by kernel_rfl))
theorem t137b {v : AV}   {s0 : List UInt8} {i1 : Int} {i6 : Int} (hT : TabOk cfg (ctab [(136, endsC)])) (H : ifP (decide (wrap i64 (i6 + 4) ≤ wrap i64 (i1 + 8192))) (∃ (s1 : List UInt8) (n2 : Nat), length s1 ≤ 10000000 ∧ n2 ≤ 10000000 ∧ [str s0, int i64 i6] = [str s1, int i64 (↑n2 : Int)] ∧ ifP (endsB s1 n2) (∃ (s3 : List UInt8) (n4 : Nat), length s3 ≤ 10000000 ∧ n4 ≤ 10000000 ∧ [str s0, int i64 (wrap i64 (i6 + 2))] = [str s3, int i64 (↑n4 : Int)] ∧ ifP (endsB s3 n4) (tup [int i64 (wrap i64 (i6 + 4)), int i64 0] = v) (ToEnd cfg 137 (bodyOf f137) (RetIs prog f137 v) [code [0, 1, 0, 1, 1], block 0, code [1, 1, 1]] normal [(0, true, str s0), (1, true, int i64 i1), (6, true, int i64 (wrap i64 (i6 + 1)))] [])) (ToEnd cfg 137 (bodyOf f137) (RetIs prog f137 v) [code [0, 1, 0, 1, 1], block 0, code [1, 1, 1]] normal [(0, true, str s0), (1, true, int i64 i1), (6, true, int i64 (wrap i64 (i6 + 1)))] [])) (ifP (decide (wrap i64 ((↑(length s0) : Int) - i1) ≥ 8192)) (tup [int i64 0, int i64 3] = v) (tup [int i64 0, int i64 6] = v))) : ToEnd cfg 137 (bodyOf f137) (RetIs prog f137 v) ([.code [0, 1, 0, 1, 1], block 0, code [1, 1, 1]]) .normal ([(0, true, str s0), (1, true, int i64 i1), (6, true, int i64 i6)]) ([]) := by
  exact ends_round (pl := ⟨[[0, 1, 0, 1, 1]], []⟩) hT 100000 (by kernel_rfl) (unr_use H (by kernel_rfl))
end Go.Proofs.YtnncfdlpogjlkaaGreatDoor
end
section
namespace Go.Proofs.YtnncfdlpogjlkaaGreatDoor
open Go.Ai Go
set_option maxRecDepth 100000
theorem pf191 : pureFn cfg 191 Tryz.f191 := (by refine ⟨?_, ?_, ?_, ?_, ?_, ?_⟩ <;> kernel_rfl)
theorem pf180 : pureFn cfg 180 Tryz.f180 := (by refine ⟨?_, ?_, ?_, ?_, ?_, ?_⟩ <;> kernel_rfl)
theorem pf158 : pureFn cfg 158 Tryz.f158 := (by refine ⟨?_, ?_, ?_, ?_, ?_, ?_⟩ <;> kernel_rfl)
theorem pf124 : pureFn cfg 124 Tryz.f124 := (by refine ⟨?_, ?_, ?_, ?_, ?_, ?_⟩ <;> kernel_rfl)
theorem pf135 : pureFn cfg 135 Tryz.f135 := (by refine ⟨?_, ?_, ?_, ?_, ?_, ?_⟩ <;> kernel_rfl)
theorem pf134 : pureFn cfg 134 Tryz.f134 := (by refine ⟨?_, ?_, ?_, ?_, ?_, ?_⟩ <;> kernel_rfl)
theorem pf137 : pureFn cfg 137 Tryz.f137 := (by refine ⟨?_, ?_, ?_, ?_, ?_, ?_⟩ <;> kernel_rfl)
theorem wrapU {n : Int} (h0 : 0 ≤ n) (h1 : n ≤ 18446744073709551615) : IntKind.wrap .u64 n = n := by
  simp only [IntKind.wrap, IntKind.bits, IntKind.signed]; simp; omega
theorem or32 : ∀ n, n < 256 → bits .or .u8 (((UInt8.ofNat n).toNat : Nat) : Int) 32 = (((UInt8.ofNat n ||| 32).toNat : Nat) : Int) := by decide +kernel
theorem c191 : COk cfg 191 lowerBC := by
  refine cok_pure pf191 fun vs h K ht => ?_
  obtain ⟨c, rfl, hk⟩ := ht; refine ⟨_, hk, t191 (ctab_ok ctab_nil) ?_⟩; have := or32 c.toNat c.toNat_lt; rw [UInt8.ofNat_toNat] at this; rw [this]
theorem hex_or : ∀ n, n < 256 → hexB (UInt8.ofNat n) = true → n ≠ 95 ∧ ((48 ≤ n ∧ n ≤ 57 ∧ hexD (UInt8.ofNat n) = n - 48) ∨ (57 < n ∧ 97 ≤ (UInt8.ofNat n ||| 32).toNat ∧ (UInt8.ofNat n ||| 32).toNat ≤ 102 ∧ hexD (UInt8.ofNat n) + 87 = (UInt8.ofNat n ||| 32).toNat)) := by decide +kernel
theorem hexV_snoc (pre : List UInt8) (x : UInt8) : hexV 0 (pre ++ [x]) = 16 * hexV 0 pre + hexD x := by rw [hexV_app]; rfl
theorem hexD_lt {c : UInt8} (h : hexB c = true) : hexD c < 16 := by
  unfold hexB at h; unfold hexD; simp only [Bool.or_eq_true, Bool.and_eq_true, decide_eq_true_eq] at h
  repeat' split
  all_goals omega
theorem hexV_lt : ∀ (s : List UInt8) (n : Nat), s.all hexB = true → hexV n s < (n + 1) * 16 ^ s.length
  | [], n, _ => by simp [hexV]
  | c :: r, n, h => by
    rw [List.all_cons, Bool.and_eq_true] at h; have h1 := hexD_lt h.1; have h2 := hexV_lt r (16 * n + hexD c) h.2; rw [hexV, List.length_cons, Nat.pow_succ, ← Nat.mul_assoc, Nat.mul_right_comm]; refine Nat.lt_of_lt_of_le h2 ?_
    exact Nat.mul_le_mul_right _ (by omega)
theorem hexV_pow {s : List UInt8} {k : Nat} (h : s.all hexB = true) (hl : s.length ≤ k) : hexV 0 s < 16 ^ k := by
  have := hexV_lt s 0 h; rw [Nat.zero_add, Nat.one_mul] at this
  exact Nat.lt_of_lt_of_le this (Nat.pow_le_pow_right (by omega) hl)
theorem loop180 {s : List UInt8} : ∀ (r pre : List UInt8), (pre ++ r).length ≤ 8 → (pre ++ r).all hexB = true →
    ToEnd cfg 180 (bodyOf Tryz.f180) (RetIs Tryz.prog Tryz.f180 (.tup [.int .u64 (hexV 0 (pre ++ r) : Nat), .nili])) [.code [0, 1, 0, 1, 1, 1, 1, 1, 1, 1, 1, 1, 1, 1], .block 3, .code [1, 1, 1, 1, 1, 1, 1, 1, 1, 1, 1, 1]] .normal
      [(1, true, .int .i64 16), (8, true, .bool false), (9, true, .str s), (10, true, .int .u64 1152921504606846976), (11, true, .int .u64 18446744073709551615), (12, true, .bool false), (13, true, .int .u64 (hexV 0 pre : Nat)), (99, true, .osl 0 0 (pre ++ r).length 1), (100, true, .int .i64 ((pre ++ r).length : Nat)), (101, true, .int .i64 pre.length)] [.mem 5 (bc (pre ++ r))] := by
  have hT : TabOk cfg (ctab [(191, lowerBC)]) := ctab_ok (ctab_cons c191 ctab_nil); intro r
  induction r with
  | nil =>
    intro pre hl ha
    refine t180b hT (ifP_intro (fun a => by simp at a) fun _ => ?_)
    rw [List.append_nil]
  | cons x r ih =>
    intro pre hl ha
    have hl' : pre.length + r.length + 1 ≤ 8 := by simp at hl; omega
    have hin : (inR (pre.length : Int) (pre ++ x :: r).length && true && true) = true := by rw [inR_nat (by simp)]; rfl
    have hi : 0 + Int.toNat (pre.length : Int) * 1 = (bc pre).length := by rw [bc_len]; simp
    have hcs : bc (pre ++ x :: r) = bc pre ++ AV.int .u8 ((UInt8.toNat x : Nat) : Int) :: bc r := by rw [bc_app]; rfl
    have hx : hexB x = true := List.all_eq_true.1 ha x (by simp)
    have hp : pre.all hexB = true := List.all_eq_true.2 fun c hc => List.all_eq_true.1 ha c (by simp [hc])
    have hlt := x.toNat_lt
    obtain ⟨n95, hcase⟩ := hex_or x.toNat hlt (by rw [UInt8.ofNat_toNat]; exact hx)
    rw [UInt8.ofNat_toNat] at hcase
    have hn : hexV 0 pre < 16 ^ 7 := hexV_pow hp (by omega)
    have hn : hexV 0 pre < 268435456 := hn; have hd := hexD_lt hx
    have next : ∀ z : Int, z = ((16 * hexV 0 pre + hexD x : Nat) : Int) → ToEnd cfg 180 (bodyOf Tryz.f180) (RetIs Tryz.prog Tryz.f180 (.tup [.int .u64 (hexV 0 (pre ++ x :: r) : Nat), .nili])) [.code [0, 1, 0, 1, 1, 1, 1, 1, 1, 1, 1, 1, 1, 1], .block 3, .code [1, 1, 1, 1, 1, 1, 1, 1, 1, 1, 1, 1]] .normal
      [(1, true, .int .i64 16), (8, true, .bool false), (9, true, .str s), (10, true, .int .u64 1152921504606846976), (11, true, .int .u64 18446744073709551615), (12, true, .bool false), (13, true, .int .u64 z), (99, true, .osl 0 0 (pre ++ x :: r).length 1), (100, true, .int .i64 ((pre ++ x :: r).length : Nat)), (101, true, .int .i64 (IntKind.wrap .i64 ((pre.length : Int) + 1)))] [.mem 5 (bc (pre ++ x :: r))] := fun z hz => by
      rw [hz, wrap_b (by unfold big; omega)]
      have := ih (pre ++ [x]) (by simpa using hl) (by simpa using ha)
      rw [hexV_snoc] at this; simpa using this
    have w1 : IntKind.wrap .u64 ((hexV 0 pre : Int) * 16) = ((16 * hexV 0 pre : Nat) : Int) := by rw [wrapU (by omega) (by omega)]; omega
    have w3 : IntKind.wrap .u64 (((16 * hexV 0 pre : Nat) : Int) + ((hexD x : Nat) : Int)) = ((16 * hexV 0 pre + hexD x : Nat) : Int) := by rw [wrapU (by omega) (by omega)]; omega
    have w4 : IntKind.wrap .u64 ((hexD x : Nat) : Int) = ((hexD x : Nat) : Int) := wrapU (by omega) (by omega)
    have fin : ∀ (e : Int) {P : Prop}, e = ((hexD x : Nat) : Int) → P → ifP (decide (e ≥ 16)) False (ifP (decide (((hexV 0 pre : Nat) : Int) ≥ 1152921504606846976)) False (ifP (decide (IntKind.wrap .u64 (IntKind.wrap .u64 (((hexV 0 pre : Nat) : Int) * 16) + IntKind.wrap .u64 e) < IntKind.wrap .u64 (((hexV 0 pre : Nat) : Int) * 16))) False (ifP (decide (IntKind.wrap .u64 (IntKind.wrap .u64 (((hexV 0 pre : Nat) : Int) * 16) + IntKind.wrap .u64 e) > 18446744073709551615)) False P))) := fun e P he hp => by
      subst he; rw [w4, w1, w3]
      refine ifP_intro (fun a => ?_) fun _ => ifP_intro (fun a => ?_) fun _ => ifP_intro (fun a => ?_) fun _ => ifP_intro (fun a => ?_) fun _ => hp
      all_goals (simp only [decide_eq_true_eq] at a; omega)
    have dig : 48 ≤ x.toNat → x.toNat ≤ 57 → IntKind.wrap .u8 ((x.toNat : Int) - 48) = ((hexD x : Nat) : Int) := fun h1 h2 => by
      rw [wrap_u8 (by omega) (by omega)]
      rcases hcase with h | h <;> omega
    have let' : 57 < x.toNat → IntKind.wrap .u8 (IntKind.wrap .u8 (((x ||| 32).toNat : Int) - 97) + 10) = ((hexD x : Nat) : Int) := fun h1 => by
      rcases hcase with h | h
      · omega
      · have q : IntKind.wrap .u8 (((x ||| 32).toNat : Int) - 97) = ((x ||| 32).toNat : Int) - 97 := wrap_u8 (by omega) (by omega)
        rw [q, wrap_u8 (by omega) (by omega)]; omega
    refine t180b hT (ifP_intro (fun _ => gAnd_intro hin ⟨_, by rw [hcs]; exact take_at hi, ifP_intro (fun b => ?_) fun b => ?_⟩) fun a => by simp at a; omega)
    · exact absurd (show x.toNat = 95 by simp at b; omega) n95
    · have lett : (57 < x.toNat ∨ x.toNat < 48) → 57 < x.toNat ∧ 97 ≤ (x ||| 32).toNat ∧ (x ||| 32).toNat ≤ 122 := fun h => by rcases hcase with h1 | h1 <;> omega
      refine ifP_intro (fun c => ifP_intro (fun d => ?_) fun d => ?_) fun c => ?_
      · simp only [decide_eq_true_eq] at c d
        refine fin _ (dig (by omega) (by omega)) (next _ ?_)
        rw [dig (by omega) (by omega), w4, w1, w3]
      · simp only [decide_eq_true_eq, decide_eq_false_iff_not] at c d
        obtain ⟨l1, l2, l3⟩ := lett (by omega)
        refine ⟨x, rfl, ifP_intro (fun _ => ⟨x, rfl, ifP_intro (fun _ => ⟨x, rfl, fin _ (let' l1) (next _ ?_)⟩) fun e => ?_⟩) fun e => ?_⟩
        · rw [let' l1, w4, w1, w3]
        · simp only [decide_eq_false_iff_not] at e; omega
        · simp only [decide_eq_false_iff_not] at e; omega
      · simp only [decide_eq_false_iff_not] at c
        obtain ⟨l1, l2, l3⟩ := lett (by omega)
        refine ⟨x, rfl, ifP_intro (fun _ => ⟨x, rfl, ifP_intro (fun _ => ⟨x, rfl, fin _ (let' l1) (next _ ?_)⟩) fun e => ?_⟩) fun e => ?_⟩
        · rw [let' l1, w4, w1, w3]
        · simp only [decide_eq_false_iff_not] at e; omega
        · simp only [decide_eq_false_iff_not] at e; omega
theorem c180 : COk cfg 180 puC := by
  refine cok_pure pf180 fun vs h K ht => ?_
  obtain ⟨s, ⟨h0, h1, h2⟩, rfl, hk⟩ := ht
  refine ⟨_, hk, t180a (ctab_ok (ctab_cons c191 ctab_nil)) (ifP_intro (fun a => h0 (by simpa using a)) fun _ => gAnd_intro (Nat.ble_eq_true_of_le (by omega)) ?_)⟩
  exact loop180 s [] h1 h2
theorem c158 : COk cfg 158 puC := by
  refine cok_pure pf158 fun vs h K ht => ?_
  obtain ⟨s, h0, rfl, hk⟩ := ht; exact ⟨_, hk, t158 (ctab_ok (ctab_cons c180 ctab_nil)) ⟨s, h0, rfl, rfl⟩⟩
def hxS : List UInt8 := [48, 49, 50, 51, 52, 53, 54, 55, 56, 57, 97, 98, 99, 100, 101, 102, 65, 66, 67, 68, 69, 70]
theorem hx_mem' : ∀ n, n < 256 → hxS.contains (UInt8.ofNat n) = hexB (UInt8.ofNat n) := by decide +kernel
theorem hx_mem (c : UInt8) : hxS.contains c = hexB c := by
  have := hx_mem' c.toNat c.toNat_lt
  rwa [UInt8.ofNat_toNat] at this
theorem trim_hx (p : List UInt8) : Lib.trimS p hxS = [] ↔ p.all hexB = true := by
  have e : (hxS.contains ·) = hexB := funext hx_mem; unfold Lib.trimS Lib.trimLeftS Lib.trimRightS; rw [e]; constructor
  · intro h; rw [dropWhile_nil, List.all_eq_true] at h
    have h2 : p.reverse.dropWhile hexB = [] := dropWhile_all fun x hx => h x (by simpa using hx)
    rw [dropWhile_nil] at h2; simpa using h2
  · intro h
    have h2 : p.reverse.dropWhile hexB = [] := dropWhile_nil.2 (by simpa using h)
    rw [h2]; rfl
theorem take_drop_while {p : UInt8 → Bool} {pre r : List UInt8} (h1 : ∀ c ∈ pre, p c = true) (h2 : ∀ c t, r = c :: t → p c = false) : (pre ++ r).takeWhile p = pre ∧ (pre ++ r).dropWhile p = r := by
  induction pre with
  | nil =>
    cases r with
    | nil => exact ⟨rfl, rfl⟩
    | cons c t =>
      have := h2 c t rfl
      rw [List.nil_append, List.takeWhile_cons_of_neg (by simp [this]), List.dropWhile_cons_of_neg (by simp [this])]
      exact ⟨rfl, rfl⟩
  | cons c pre ih =>
    obtain ⟨i1, i2⟩ := ih fun d hd => h1 d (by simp [hd])
    have := h1 c (by simp)
    rw [List.cons_append, List.takeWhile_cons_of_pos this, List.dropWhile_cons_of_pos this, i1, i2]; exact ⟨rfl, rfl⟩
theorem size_at {pre r : List UInt8} (h1 : ∀ c ∈ pre, hexB c = true) (h2 : ∀ c t, r = c :: t → hexB c = false) : sizeV (pre ++ r) = if pre = [] then none else if 8 < pre.length then none else match r with
    | [] => some (hexV 0 pre)
    | c :: m => if c = 59 ∧ m.all extB = true then some (hexV 0 pre) else none := by
  obtain ⟨e1, e2⟩ := take_drop_while h1 h2; unfold sizeV; rw [e1, e2]
  cases r <;> rfl
theorem takeWhile_mem {p : UInt8 → Bool} {c : UInt8} : ∀ {l : List UInt8}, c ∈ l.takeWhile p → p c = true
  | [], h => by cases h
  | d :: l, h => by
    rw [List.takeWhile_cons] at h; split at h
    · rcases List.mem_cons.1 h with rfl | h
      · assumption
      · exact takeWhile_mem h
    · cases h
theorem size_bad {s : List UInt8} {j : Nat} {x : UInt8} (hx : s[j]? = some x) (h1 : hexB x = false) (h2 : x ≠ 59) (h3 : ∀ i y, i < j → s[i]? = some y → y ≠ 59) : sizeV s = none := by
  have hsplit := List.takeWhile_append_dropWhile (p := hexB) (l := s); unfold sizeV; split
  · rfl
  split
  · rfl
  split
  · rename_i hd; rw [hd, List.append_nil] at hsplit; rw [← hsplit] at hx; have := takeWhile_mem (List.mem_of_getElem? hx); rw [h1] at this; cases this
  · rename_i c m hd; rw [if_neg]
    rintro ⟨rfl, hm⟩
    rw [hd] at hsplit
    have hw : ∀ c ∈ s.takeWhile hexB, hexB c = true := fun c hc => takeWhile_mem hc
    generalize s.takeWhile hexB = w at *
    rcases Nat.lt_trichotomy j w.length with h | h | h
    · rw [← hsplit, List.getElem?_append_left h] at hx; have := hw _ (List.mem_of_getElem? hx); rw [h1] at this; cases this
    · rw [← hsplit, List.getElem?_append_right (by omega), h, Nat.sub_self] at hx
      simp at hx; exact h2 hx.symm
    · exact h3 _ 59 h (by rw [← hsplit, List.getElem?_append_right (Nat.le_refl _), Nat.sub_self]; simp) rfl
theorem extB_nat (c : UInt8) : extB c = true ↔ c.toNat = 9 ∨ (32 ≤ c.toNat ∧ c.toNat ≤ 126) := by
  unfold extB; simp only [Bool.or_eq_true, Bool.and_eq_true, decide_eq_true_eq]
theorem tab124 : TabOk cfg (ctab [(70, cutGC), (155, trimSC), (158, puC)]) := ctab_ok (ctab_cons c70 (ctab_cons c155 (ctab_cons c158 ctab_nil)))
theorem loop124 {d : List UInt8} (hd : hexOk d) : ∀ (r pre : List UInt8), (pre ++ r).length ≤ big →
    ToEnd cfg 124 (bodyOf Tryz.f124) (RetIs Tryz.prog Tryz.f124 (if r.all extB = true then .tup [.int .i64 (hexV 0 d : Nat), .int .i64 0] else .tup [.int .i64 0, .int .i64 4])) [.code [0, 1, 0, 1, 1, 1], .block 0, .code [1, 1, 1, 1]] .normal
      [(4, true, .str d), (5, true, .str (pre ++ r)), (30, true, .int .i64 ((pre ++ r).length : Nat)), (31, true, .int .i64 pre.length)] [] := by
  intro r
  induction r with
  | nil =>
    intro pre hl
    refine t124b tab124 (ifP_intro (fun a => by simp at a) fun _ => ⟨d, hd, rfl, ?_⟩)
    have : hexV 0 d < 16 ^ 8 := hexV_pow hd.2.2 hd.2.1
    rw [wrap_in (by omega) (by omega), if_pos (by simp)]
  | cons x r ih =>
    intro pre hl
    have hlen : pre.length ≤ big := by simp at hl; omega
    have next : extB x = true → ToEnd cfg 124 (bodyOf Tryz.f124) (RetIs Tryz.prog Tryz.f124 (if (x :: r).all extB = true then .tup [.int .i64 (hexV 0 d : Nat), .int .i64 0] else .tup [.int .i64 0, .int .i64 4])) [.code [0, 1, 0, 1, 1, 1], .block 0, .code [1, 1, 1, 1]] .normal
      [(4, true, .str d), (5, true, .str (pre ++ x :: r)), (30, true, .int .i64 ((pre ++ x :: r).length : Nat)), (31, true, .int .i64 (IntKind.wrap .i64 ((pre.length : Int) + 1)))] [] := fun hb => by
      rw [wrap_b hlen, List.all_cons, hb, Bool.true_and]
      have := ih (pre ++ [x]) (by simpa using hl)
      simpa using this
    have bad : ¬ extB x = true → AV.tup [.int .i64 0, .int .i64 4] = (if (x :: r).all extB = true then .tup [.int .i64 (hexV 0 d : Nat), .int .i64 0] else .tup [.int .i64 0, .int .i64 4]) := fun hb => by
      rw [List.all_cons, eq_false_of_ne_true hb, Bool.false_and, if_neg (by simp)]
    rw [extB_nat] at next bad
    refine t124b tab124 (ifP_intro (fun _ => gAnd_intro (inR_of (by omega) (by simp; omega)) ?_) fun a => by simp at a; omega)
    rw [at_pre]
    refine ifP_intro (fun b => ifP_intro (fun e => bad ?_) fun e => ifP_intro (fun f => bad ?_) fun f => next ?_) fun b => next ?_ <;>
      simp only [decide_eq_true_eq, decide_eq_false_iff_not, bne_iff_ne, ne_eq, bne_eq_false_iff_eq, beq_iff_eq, beq_eq_false_iff_ne] at * <;> omega
theorem mem_take_get {s : List UInt8} {n : Nat} {c : UInt8} (h : c ∈ s.take n) : ∃ i, i < n ∧ s[i]? = some c := by
  obtain ⟨i, hi⟩ := List.mem_iff_getElem?.1 h; rw [List.getElem?_take] at hi; split at hi
  · exact ⟨i, by assumption, hi⟩
  · cases hi
theorem c124 : COk cfg 124 sizeC := by
  refine cok_pure pf124 fun vs h K ht => ?_
  obtain ⟨s, hl, rfl, hk⟩ := ht
  refine ⟨_, hk, t124a tab124 ⟨s, [59], by unfold big at hl; omega, rfl, ?_⟩⟩
  have hc : cutS s [59] = match fnd [59] s with | some n => (s.take n, s.drop (n + 1), true) | none => (s, [], false) := cutS_fnd s [59]
  -- ahead of a semicolon
  obtain ⟨d, m, hdm, hcut, hno⟩ : ∃ d m, (s = d ∧ m = [] ∨ s = d ++ 59 :: m) ∧ (cutS s [59]).1 = d ∧ (cutS s [59]).2.1 = m ∧ ∀ c ∈ d, c ≠ 59 := by
    cases hf : fnd [59] s with
    | none =>
      rw [hc, hf]
      refine ⟨s, [], .inl ⟨rfl, rfl⟩, rfl, rfl, fun c hcm => ?_⟩
      rintro rfl
      obtain ⟨i, hi⟩ := List.mem_iff_getElem?.1 hcm
      have := fnd_none hf i (by simp)
      have hlt := (List.getElem?_eq_some_iff.1 hi).1; have hv := (List.getElem?_eq_some_iff.1 hi).2; rw [List.drop_eq_getElem_cons hlt, hv] at this; simp [List.isPrefixOf] at this
    | some n =>
      rw [hc, hf]; obtain ⟨h1, h2⟩ := fnd_some hf
      have hlt : n < s.length := by simp at h2; omega
      have hv : s[n] = 59 := by
        rw [List.drop_eq_getElem_cons hlt] at h1; simp [List.isPrefixOf] at h1; exact h1.symm
      refine ⟨s.take n, s.drop (n + 1), .inr ?_, rfl, rfl, fun c hcm => ?_⟩
      · have := List.take_append_drop n s; rw [List.drop_eq_getElem_cons hlt, hv] at this; exact this.symm
      · rintro rfl
        obtain ⟨i, hin, hi⟩ := mem_take_get hcm; have := fnd_least hf i hin; have hlt := (List.getElem?_eq_some_iff.1 hi).1; have hv := (List.getElem?_eq_some_iff.1 hi).2; rw [List.drop_eq_getElem_cons hlt, hv] at this; simp [List.isPrefixOf] at this
  obtain ⟨hm, hno⟩ := hno; rw [hcut, hm]
  have hds : d.length ≤ s.length := by rcases hdm with ⟨rfl, _⟩ | rfl <;> simp
  have hms : m.length ≤ big := by rcases hdm with ⟨_, rfl⟩ | rfl <;> simp at *; omega
  have hsz : (∀ c ∈ d, hexB c = true) → sizeV s = if d = [] then none else if 8 < d.length then none else if m.all extB = true then some (hexV 0 d) else none := fun ha => by
    rcases hdm with ⟨rfl, rfl⟩ | rfl
    · have := size_at (pre := s) (r := []) ha (fun c t h => by cases h)
      rw [List.append_nil] at this; rw [this]; simp
    · have := size_at (pre := d) (r := 59 :: m) ha (fun c t h => by injection h with h _; subst h; decide)
      rw [this]; simp
  have hbad : ¬ d.all hexB = true → sizeV s = none := fun ha => by
    rw [List.all_eq_true] at ha; simp only [Classical.not_forall] at ha; obtain ⟨c, hcm, hcb⟩ := ha; obtain ⟨i, hi⟩ := List.mem_iff_getElem?.1 hcm; have hlt := (List.getElem?_eq_some_iff.1 hi).1
    have hget : ∀ j, j < d.length → s[j]? = d[j]? := fun j hj => by
      rcases hdm with ⟨rfl, _⟩ | rfl
      · rfl
      · rw [List.getElem?_append_left hj]
    refine size_bad (j := i) (x := c) (by rw [hget i hlt]; exact hi) (eq_false_of_ne_true hcb) (hno c hcm) fun k y hk hy => ?_
    rw [hget k (by omega)] at hy
    exact hno y (List.mem_of_getElem? hy)
  have none4 : sizeV s = none → AV.tup [.int .i64 0, .int .i64 4] = AV.tup [.int .i64 ((sizeA s).1 : Nat), .int .i64 (sizeA s).2] := fun hv => by
    unfold sizeA; rw [hv]; rfl
  refine ifP_intro (fun a => none4 ?_) fun a => ifP_intro (fun b => none4 ?_) fun b => ⟨d, hxS, by unfold big at hl; omega, by decide, by decide, rfl, ifP_intro (fun e => none4 ?_) fun e => ?_⟩
  · have hd0 : d = [] := by simpa using a
    subst hd0
    rw [hsz (by simp), if_pos rfl]
  · by_cases ha : d.all hexB = true
    · rw [hsz (List.all_eq_true.1 ha), if_pos (show 8 < d.length by simp only [gt_iff_lt, decide_eq_true_eq] at b; omega)]
      simp
    · exact hbad ha
  · refine hbad fun ha => ?_
    have := (trim_hx d).2 ha; simp [this] at e
  · have ha : d.all hexB = true := (trim_hx d).1 (by simpa using e)
    have h0 : d ≠ [] := by simpa using a
    have h8 : ¬ 8 < d.length := by simp only [gt_iff_lt, decide_eq_false_iff_not] at b; omega
    have := loop124 (d := d) ⟨h0, by omega, ha⟩ m [] hms
    have ev : (if m.all extB = true then AV.tup [.int .i64 (hexV 0 d : Nat), .int .i64 0] else AV.tup [.int .i64 0, .int .i64 4]) = AV.tup [.int .i64 ((sizeA s).1 : Nat), .int .i64 (sizeA s).2] := by
      unfold sizeA; rw [hsz (List.all_eq_true.1 ha), if_neg h0, if_neg h8]
      split <;> rfl
    rw [ev] at this; exact this
end Go.Proofs.YtnncfdlpogjlkaaGreatDoor
end
section
namespace Go.Proofs.YtnncfdlpogjlkaaGreatDoor
open Go.Ai Go
set_option maxRecDepth 100000
theorem hexI_nonneg (c : UInt8) : decide ((if hexB c = true then ((hexD c : Nat) : Int) else -1) ≥ 0) = hexB c := by
  cases h : hexB c with
  | true => rw [if_pos rfl]; exact decide_eq_true (by omega)
  | false => rw [if_neg (by simp)]; rfl
theorem tab135 : TabOk cfg (ctab [(160, hexDC)]) := ctab_ok (ctab_cons c160 ctab_nil)
def sizeI (s : List UInt8) : AV := .int .i64 (sizeN s)
theorem loop135c {N : Nat} {x : Int} (hx : x = N) : ∀ (r pre : List UInt8), (pre ++ r).length ≤ big →
    ToEnd cfg 135 (bodyOf Tryz.f135) (RetIs Tryz.prog Tryz.f135 (.int .i64 (if r.all extB = true then (N : Int) else -1))) [.code [0, 1, 0, 1, 1, 1, 1, 1], .block 2, .code [1, 1, 1, 1, 1, 1]] .normal
      [(0, true, .str (pre ++ r)), (3, true, .int .i64 x), (5, true, .int .i64 pre.length)] [] := by
  subst hx; intro r
  induction r with
  | nil =>
    intro pre hl
    exact t135c tab135 (ifP_intro (fun a => by simp at a) fun _ => rfl)
  | cons x r ih =>
    intro pre hl
    have hlen : pre.length ≤ big := by simp at hl; omega
    have hin : inR (pre.length : Int) (pre ++ x :: r).length = true := inR_of (by omega) (by simp; omega)
    have next : extB x = true → ToEnd cfg 135 (bodyOf Tryz.f135) (RetIs Tryz.prog Tryz.f135 (.int .i64 (if (x :: r).all extB = true then (N : Int) else -1))) [.code [0, 1, 0, 1, 1, 1, 1, 1], .block 2, .code [1, 1, 1, 1, 1, 1]] .normal
      [(0, true, .str (pre ++ x :: r)), (3, true, .int .i64 N), (5, true, .int .i64 (IntKind.wrap .i64 ((pre.length : Int) + 1)))] [] := fun hb => by
      rw [wrap_b hlen, List.all_cons, hb, Bool.true_and]
      have := ih (pre ++ [x]) (by simpa using hl)
      simpa using this
    have bad : ¬ extB x = true → AV.int .i64 (-1) = AV.int .i64 (if (x :: r).all extB = true then (N : Int) else -1) := fun hb => by
      rw [List.all_cons, eq_false_of_ne_true hb, Bool.false_and, if_neg (by simp)]
    rw [extB_nat] at next bad
    refine t135c tab135 (ifP_intro (fun _ => gAnd_intro hin ?_) fun a => by simp at a; omega)
    rw [at_pre]
    refine ifP_intro (fun b => gAnd_intro hin (ifP_intro (fun e => bad ?_) fun e => gAnd_intro hin (ifP_intro (fun f => bad ?_) fun f => next ?_))) fun b => next ?_ <;>
      simp only [decide_eq_true_eq, decide_eq_false_iff_not, bne_iff_ne, ne_eq, bne_eq_false_iff_eq, beq_iff_eq, beq_eq_false_iff_ne] at * <;> omega
theorem exit46 {r pre : List UInt8} {x : Int} (hx : x = ((hexV 0 pre : Nat) : Int)) (hl : (pre ++ r).length ≤ big) (hp : ∀ c ∈ pre, hexB c = true) (hr : pre.length = 9 ∨ ∀ c t, r = c :: t → hexB c = false) :
    ifP (((pre.length : Nat) : Int) == 0) (AV.int .i64 (-1) = sizeI (pre ++ r)) (ifP (decide (((pre.length : Nat) : Int) > 8)) (AV.int .i64 (-1) = sizeI (pre ++ r)) (ifP (decide (((pre.length : Nat) : Int) < ((pre ++ r).length : Int))) (gAnd (inR ((pre.length : Nat) : Int) (pre ++ r).length) (ifP (((UInt8.toNat (List.getD (pre ++ r) (Int.toNat ((pre.length : Nat) : Int)) 0) : Nat) : Int) != 59) (AV.int .i64 (-1) = sizeI (pre ++ r))
      (ToEnd cfg 135 (bodyOf Tryz.f135) (RetIs Tryz.prog Tryz.f135 (sizeI (pre ++ r))) [.code [0, 1, 0, 1, 1, 1, 1, 1], .block 2, .code [1, 1, 1, 1, 1, 1]] .normal [(0, true, .str (pre ++ r)), (3, true, .int .i64 x), (5, true, .int .i64 (IntKind.wrap .i64 ((pre.length : Int) + 1)))] [])))
      (ToEnd cfg 135 (bodyOf Tryz.f135) (RetIs Tryz.prog Tryz.f135 (sizeI (pre ++ r))) [.code [0, 1, 0, 1, 1, 1, 1, 1], .block 2, .code [1, 1, 1, 1, 1, 1]] .normal [(0, true, .str (pre ++ r)), (3, true, .int .i64 x), (5, true, .int .i64 (IntKind.wrap .i64 ((pre.length : Int) + 1)))] []))) := by
  have none1 : sizeV (pre ++ r) = none → AV.int .i64 (-1) = sizeI (pre ++ r) := fun h => by unfold sizeI sizeN; rw [h]
  have hlen : pre.length ≤ big := by simp at hl; omega
  by_cases h8 : 8 < pre.length
  · have hn : sizeV (pre ++ r) = none := by
      have : 8 < ((pre ++ r).takeWhile hexB).length := by
        have e := List.takeWhile_append (p := hexB) (xs := pre) (ys := r); have e1 := (takeWhile_all' (p := hexB) hp).1; rw [e1, if_pos rfl] at e; rw [e]; simp; omega
      unfold sizeV; split
      · rfl
      · first | rfl | rw [if_pos this]
    refine ifP_intro (fun a => none1 hn) fun _ => ifP_intro (fun _ => none1 hn) fun a => ?_
    simp only [gt_iff_lt, decide_eq_false_iff_not] at a; omega
  · have hr' : ∀ c t, r = c :: t → hexB c = false := by
      rcases hr with h | h
      · omega
      · exact h
    have hs := size_at hp hr'
    refine ifP_intro (fun a => none1 ?_) fun a => ifP_intro (fun b => ?_) fun _ => ?_
    · have : pre = [] := by simpa using a
      rw [hs, if_pos this]
    · simp only [gt_iff_lt, decide_eq_true_eq] at b; omega
    · have h0 : pre ≠ [] := by simpa using a
      rw [if_neg h0, if_neg h8] at hs
      cases r with
      | nil =>
        refine ifP_intro (fun b => by simp at b) fun _ => ?_
        rw [wrap_b hlen]
        have hv : sizeI (pre ++ []) = .int .i64 (hexV 0 pre : Nat) := by unfold sizeI sizeN; rw [hs]
        rw [hv]
        refine t135c tab135 (ifP_intro (fun b => ?_) fun _ => by rw [hx])
        simp at b; omega
      | cons c t =>
        refine ifP_intro (fun _ => gAnd_intro (inR_nat (by simp)) ?_) fun b => by simp at b; omega
        rw [at_pre]
        refine ifP_intro (fun b => none1 ?_) fun b => ?_
        · rw [hs]; simp only; rw [if_neg]
          rintro ⟨h, _⟩
          exact unq 59 rfl b h
        · have hc : c = 59 := unq' 59 rfl b
          have hv : sizeI (pre ++ c :: t) = .int .i64 (if t.all extB = true then ((hexV 0 pre : Nat) : Int) else -1) := by
            unfold sizeI sizeN
            by_cases he : t.all extB = true
            · have : sizeV (pre ++ c :: t) = some (hexV 0 pre) := by rw [hs]; simp only; rw [if_pos ⟨hc, he⟩]
              rw [this, if_pos he]
            · have : sizeV (pre ++ c :: t) = none := by rw [hs]; simp only; rw [if_neg (fun h => he h.2)]
              rw [this, if_neg he]
          rw [hv, wrap_b hlen]
          have := loop135c (N := hexV 0 pre) hx t (pre ++ [c]) (by simpa using hl)
          simpa using this
theorem loop135 : ∀ (r pre : List UInt8), (pre ++ r).length ≤ big → (∀ c ∈ pre, hexB c = true) → pre.length ≤ 9 →
    ToEnd cfg 135 (bodyOf Tryz.f135) (RetIs Tryz.prog Tryz.f135 (sizeI (pre ++ r))) [.code [0, 0, 1, 1, 1], .block 0, .code [1, 1, 1, 1]] .normal
      [(0, true, .str (pre ++ r)), (3, true, .int .i64 (hexV 0 pre : Nat)), (4, true, .int .i64 pre.length)] [] := by
  intro r
  induction r with
  | nil =>
    intro pre hl hp h9
    have ex := exit46 (r := []) rfl hl hp (.inr fun c t h => by cases h)
    exact t135b tab135 (ifP_intro (fun a => by simp at a) fun _ => ex)
  | cons x r ih =>
    intro pre hl hp h9
    have hlen : pre.length ≤ big := by unfold big; omega
    have hin : inR (pre.length : Int) (pre ++ x :: r).length = true := inR_of (by omega) (by simp; omega)
    have ex := exit46 (r := x :: r) rfl hl hp
    refine t135b tab135 (ifP_intro (fun _ => gAnd_intro hin ⟨x, by rw [at_pre], ?_⟩) fun a => by simp at a; omega)
    rw [hexI_nonneg]
    refine ifP_intro (fun hx => ifP_intro (fun a => gAnd_intro hin ⟨x, by rw [at_pre], ?_⟩) fun a => ?_) fun hx => ?_
    · have h8 : pre.length ≤ 8 := by simp only [decide_eq_true_eq] at a; omega
      have hv := hexV_pow (s := pre) (k := 8) (List.all_eq_true.2 hp) h8; have hv : hexV 0 pre < 4294967296 := hv; have hd := hexD_lt hx
      have e : IntKind.wrap .i64 (IntKind.wrap .i64 (16 * ((hexV 0 pre : Nat) : Int)) + if hexB x = true then ((hexD x : Nat) : Int) else -1) = ((hexV 0 (pre ++ [x]) : Nat) : Int) := by
        rw [if_pos hx, hexV_snoc, wrap_in (n := 16 * ((hexV 0 pre : Nat) : Int)) (by omega) (by omega), wrap_in (by omega) (by omega)]
        omega
      rw [e, wrap_b hlen]
      have := ih (pre ++ [x]) (by simpa using hl) (fun c hc => by
        rcases List.mem_append.1 hc with h | h
        · exact hp c h
        · rw [List.mem_singleton] at h; subst h; exact hx) (by simp; omega)
      simpa using this
    · exact ex (.inl (by simp only [decide_eq_false_iff_not] at a; omega))
    · exact ex (.inr fun c t h => by injection h with h _; subst h; exact hx)
theorem c135 : COk cfg 135 sizeRC := by
  refine cok_pure pf135 fun vs h K ht => ?_
  obtain ⟨s, hl, rfl, hk⟩ := ht
  exact ⟨_, hk, t135a tab135 (loop135 s [] hl (by simp) (by simp))⟩
theorem fnd_takeN {x s : List UInt8} {k M : Nat} (h1 : x.isPrefixOf (s.drop k) = true) (h2 : ∀ j, j < k → x.isPrefixOf (s.drop j) = false) (h3 : k + x.length ≤ M) (hx : x ≠ []) : fnd x (s.take M) = some k :=
  fnd_take (fnd_of h1 h2 hx) h3 hx
theorem fnd_takeNo {x s : List UInt8} {M : Nat} (h : ∀ j, j + x.length ≤ M → x.isPrefixOf (s.drop j) = false) (hx : x ≠ []) : fnd x (s.take M) = none :=
  fnd_take_no (fun n hn => by
    rcases Nat.lt_or_ge M (n + x.length) with h1 | h1
    · exact h1
    · have := (fnd_some hn).1; rw [h n h1] at this; cases this) hx
theorem tab134 : TabOk cfg (ctab [(136, endsC)]) := ctab_ok (ctab_cons c136 ctab_nil)
theorem loop134 {s : List UInt8} {n : Nat} (hl : s.length ≤ 1000000) (hn : n ≤ s.length) : ∀ (m i : Nat), i + m = 2049 → (∀ j, j < i → crlf.isPrefixOf ((s.drop n).drop j) = false) →
    ToEnd cfg 134 (bodyOf Tryz.f134) (RetIs Tryz.prog Tryz.f134 (.tup [.int .i64 (headA s n).1, .int .i64 (headA s n).2])) [.code [0, 1, 0, 1], .block 0, .code [1, 1]] .normal
      [(0, true, .str s), (1, true, .int .i64 n), (6, true, .int .i64 (n + i : Nat))] [] := by
  intro m
  induction m with
  | zero =>
    intro i hi hno
    have e1 : IntKind.wrap .i64 ((n : Int) + 2048) = ((n + 2048 : Nat) : Int) := by rw [wrap_in (by omega) (by omega)]; omega
    have e2 : IntKind.wrap .i64 ((s.length : Int) - (n : Int)) = ((s.length - n : Nat) : Int) := by rw [wrap_in (by omega) (by omega)]; omega
    have hf : fnd crlf ((s.drop n).take 2050) = none := fnd_takeNo (fun j hj => hno j (by simp [crlf] at hj; omega)) crlf_ne
    refine t134b tab134 ?_; rw [e1, e2]
    refine ifP_intro (fun a => by simp only [decide_eq_true_eq] at a; omega) fun _ => ifP_intro (fun a => ?_) fun a => ?_
    · unfold headA
      rw [hf, if_pos (by simp only [ge_iff_le, decide_eq_true_eq] at a; rw [List.length_drop]; omega)]; rfl
    · unfold headA
      rw [hf, if_neg (by simp only [ge_iff_le, decide_eq_false_iff_not] at a; rw [List.length_drop]; omega)]; rfl
  | succ m ih =>
    intro i hi hno
    have e1 : IntKind.wrap .i64 ((n : Int) + 2048) = ((n + 2048 : Nat) : Int) := by rw [wrap_in (by omega) (by omega)]; omega
    have e3 : IntKind.wrap .i64 (((n + i : Nat) : Int) + 1) = ((n + (i + 1) : Nat) : Int) := by rw [wrap_in (by omega) (by omega)]; omega
    refine t134b tab134 ?_; rw [e1, e3]
    refine ifP_intro (fun _ => ⟨s, n + i, by omega, by omega, rfl, ifP_intro (fun b => ?_) fun b => ?_⟩) fun a => by simp only [decide_eq_false_iff_not] at a; omega
    · have hb : crlf.isPrefixOf ((s.drop n).drop i) = true := by rw [List.drop_drop]; exact b
      unfold headA
      rw [fnd_takeN hb hno (by simp [crlf]; omega) crlf_ne]
    · have hb : crlf.isPrefixOf ((s.drop n).drop i) = false := by rw [List.drop_drop]; exact b
      exact ih (i + 1) (by omega) fun j hj => by
        rcases Nat.lt_or_ge j i with h | h
        · exact hno j h
        · have : j = i := by omega
          subst this; exact hb
end Go.Proofs.YtnncfdlpogjlkaaGreatDoor
namespace Go.Ai
def headC' : Con := fun vs h K => ∃ (s : List UInt8) (n : Nat), s.length ≤ 1000000 ∧ n ≤ s.length ∧ vs = [.str s, .int .i64 n] ∧ K (.tup [.int .i64 (headA s n).1, .int .i64 (headA s n).2]) h
def tailC' : Con := fun vs h K => ∃ (s : List UInt8) (n : Nat), s.length ≤ 1000000 ∧ n ≤ s.length ∧ vs = [.str s, .int .i64 n] ∧ K (.tup [.int .i64 (tailA s n).1, .int .i64 (tailA s n).2]) h
end Go.Ai
namespace Go.Proofs.YtnncfdlpogjlkaaGreatDoor
open Go.Ai Go
set_option maxRecDepth 100000
theorem c134 : COk cfg 134 headC' := by
  refine cok_pure pf134 fun vs h K ht => ?_
  obtain ⟨s, n, hl, hn, rfl, hk⟩ := ht
  exact ⟨_, hk, t134a tab134 (loop134 hl hn 2049 0 (by omega) (fun j h => by omega))⟩
theorem crlf2_at {s : List UInt8} {n : Nat} : crlf2.isPrefixOf (s.drop n) = (endsB s n && endsB s (n + 2)) := by
  unfold endsB; rw [Bool.eq_iff_iff, Bool.and_eq_true, ← List.drop_drop]; generalize s.drop n = t
  match t with
  | [] => simp [crlf, crlf2]
  | [a] => simp [crlf, crlf2]
  | a :: b :: t =>
    simp only [crlf, crlf2, List.isPrefixOf, Bool.and_eq_true, beq_iff_eq, List.drop_succ_cons, List.drop_zero]; constructor
    · rintro ⟨h1, h2, h3⟩; exact ⟨⟨h1, h2, trivial⟩, h3⟩
    · rintro ⟨⟨h1, h2, _⟩, h3⟩; exact ⟨h1, h2, h3⟩
theorem loop137 {s : List UInt8} {n : Nat} (hl : s.length ≤ 1000000) (hn : n ≤ s.length) (h0 : endsB s n = false) : ∀ (m i : Nat), i + m = 8189 → (∀ j, j < i → crlf2.isPrefixOf ((s.drop n).drop j) = false) →
    ToEnd cfg 137 (bodyOf Tryz.f137) (RetIs Tryz.prog Tryz.f137 (.tup [.int .i64 (tailA s n).1, .int .i64 (tailA s n).2])) [.code [0, 1, 0, 1, 1], .block 0, .code [1, 1, 1]] .normal
      [(0, true, .str s), (1, true, .int .i64 n), (6, true, .int .i64 (n + i : Nat))] [] := by
  have ht : tailA s n = match fnd crlf2 ((s.drop n).take 8192) with | some i => (n + i + 4, 0) | none => (0, if 8192 ≤ (s.drop n).length then 3 else 6) := by
    unfold tailA
    rw [if_neg (by rw [h0]; simp)]
    cases fnd crlf2 ((s.drop n).take 8192) <;> rfl
  intro m
  induction m with
  | zero =>
    intro i hi hno
    have e1 : IntKind.wrap .i64 ((n : Int) + 8192) = ((n + 8192 : Nat) : Int) := by rw [wrap_in (by omega) (by omega)]; omega
    have e2 : IntKind.wrap .i64 ((s.length : Int) - (n : Int)) = ((s.length - n : Nat) : Int) := by rw [wrap_in (by omega) (by omega)]; omega
    have e4 : IntKind.wrap .i64 (((n + i : Nat) : Int) + 4) = ((n + i + 4 : Nat) : Int) := by rw [wrap_in (by omega) (by omega)]; omega
    have hf : fnd crlf2 ((s.drop n).take 8192) = none := fnd_takeNo (fun j hj => hno j (by simp [crlf2] at hj; omega)) crlf2_ne
    refine t137b tab134 ?_; rw [e1, e2, e4]
    refine ifP_intro (fun a => by simp only [decide_eq_true_eq] at a; omega) fun _ => ifP_intro (fun a => ?_) fun a => ?_
    · rw [ht, hf, if_pos (by simp only [ge_iff_le, decide_eq_true_eq] at a; rw [List.length_drop]; omega)]; rfl
    · rw [ht, hf, if_neg (by simp only [ge_iff_le, decide_eq_false_iff_not] at a; rw [List.length_drop]; omega)]; rfl
  | succ m ih =>
    intro i hi hno
    have e1 : IntKind.wrap .i64 ((n : Int) + 8192) = ((n + 8192 : Nat) : Int) := by rw [wrap_in (by omega) (by omega)]; omega
    have e3 : IntKind.wrap .i64 (((n + i : Nat) : Int) + 1) = ((n + (i + 1) : Nat) : Int) := by rw [wrap_in (by omega) (by omega)]; omega
    have e4 : IntKind.wrap .i64 (((n + i : Nat) : Int) + 4) = ((n + i + 4 : Nat) : Int) := by rw [wrap_in (by omega) (by omega)]; omega
    have e5 : IntKind.wrap .i64 (((n + i : Nat) : Int) + 2) = ((n + i + 2 : Nat) : Int) := by rw [wrap_in (by omega) (by omega)]; omega
    have hat : crlf2.isPrefixOf ((s.drop n).drop i) = (endsB s (n + i) && endsB s (n + i + 2)) := by rw [List.drop_drop]; exact crlf2_at
    have next : crlf2.isPrefixOf ((s.drop n).drop i) = false → _ := fun hb => ih (i + 1) (by omega) fun j hj => by
        rcases Nat.lt_or_ge j i with h | h
        · exact hno j h
        · have : j = i := by omega
          subst this; exact hb
    refine t137b tab134 ?_; rw [e1, e3, e4, e5]
    refine ifP_intro (fun _ => ⟨s, n + i, by omega, by omega, rfl, ifP_intro (fun b => ⟨s, n + i + 2, by omega, by omega, rfl, ifP_intro (fun c => ?_) fun c => ?_⟩) fun b => ?_⟩) fun a => by simp only [decide_eq_false_iff_not] at a; omega
    · rw [ht, fnd_takeN (by rw [hat, b, c]; rfl) hno (by simp [crlf2]; omega) crlf2_ne]
    · exact next (by rw [hat, c, Bool.and_false])
    · exact next (by rw [hat, b, Bool.false_and])
theorem c137 : COk cfg 137 tailC' := by
  refine cok_pure pf137 fun vs h K ht => ?_
  obtain ⟨s, n, hl, hn, rfl, hk⟩ := ht
  have e5 : IntKind.wrap .i64 ((n : Int) + 2) = ((n + 2 : Nat) : Int) := by rw [wrap_in (by omega) (by omega)]; omega
  refine ⟨_, hk, t137a tab134 ⟨s, n, by omega, by omega, rfl, ifP_intro (fun b => ?_) fun b => ?_⟩⟩
  · unfold tailA; rw [if_pos b, e5]
  · exact loop137 hl hn b 8189 0 (by omega) (fun j h => by omega)
end Go.Proofs.YtnncfdlpogjlkaaGreatDoor
end
section
namespace Go.Proofs.YtnncfdlpogjlkaaGreatDoor
open Go.Ai Go
set_option maxRecDepth 100000
open Go.IntKind (wrap i64 u8)
open Go.Ai.AV (int str sl tup bool agg ptr)
open Go.Ai.Blk (mem grow)
open Go.Ai.Fm (code block loop)
open Go.Ai.XT (normal)
open List (length)
open Prod (fst snd)
open UInt8 (toNat)
open Tryz (prog f65 f66 f79 f109)
theorem t109a {K : AV → Hp → Prop} {g s0 e0 : Nat} {n : Nat} {e : List (List AV)}  (hT : TabOk cfg (ctab [])) (H : K (tup []) [grow g s0 e0, grow n 1 5, mem 113 [ptr 2 0, sl 1 (stripss 3 [grow g s0 e0, grow n 1 5, mem 113 [ptr 2 0, sl 1 e (some 1)]] e) (some 1)]]) : ToEnd cfg 109 (bodyOf f109) (RetIn prog f109 3 K) ([.code []]) .normal ([(0, true, .ptr 2 0)]) ([.grow g s0 e0, .grow n 1 5, .mem 113 [.nilp, .sl 1 e (some 1)]]) := by
  exact unr_ok (pl := ⟨[], []⟩) hT 100000 _ _ _ _ (unr_use H (by kernel_rfl))
theorem t109b {K : AV → Hp → Prop} {g s0 e0 : Nat} {n : Nat} {e : List (List AV)}  (hT : TabOk cfg (ctab [])) (H : K (tup []) [grow g s0 e0, grow n 1 5, mem 113 [ptr 2 0, sl 1 (stripss 3 [grow g s0 e0, grow n 1 5, mem 113 [ptr 2 0, sl 1 e (some 1)]] e) (some 1)]]) : ToEnd cfg 109 (bodyOf f109) (RetIn prog f109 3 K) ([.code []]) .normal ([(0, true, .ptr 2 0)]) ([.grow g s0 e0, .grow n 1 5, .mem 113 [.ptr 2 0, .sl 1 e (some 1)]]) := by
  exact unr_ok (pl := ⟨[], []⟩) hT 100000 _ _ _ _ (unr_use H (by kernel_rfl))
theorem t109c {K : AV → Hp → Prop} {g s0 e0 : Nat} {n : Nat} {e : List (List AV)} {m s3 e3 : Nat} (hT : TabOk cfg (ctab [])) (H : K (tup []) [grow g s0 e0, grow m s3 e3, grow n 1 5, mem 113 [ptr 3 0, sl 1 (stripss 4 [grow g s0 e0, grow m s3 e3, grow n 1 5, mem 113 [ptr 3 0, sl 1 e (some 2)]] e) (some 2)]]) : ToEnd cfg 109 (bodyOf f109) (RetIn prog f109 4 K) ([.code []]) .normal ([(0, true, .ptr 3 0)]) ([.grow g s0 e0, .grow m s3 e3, .grow n 1 5, .mem 113 [.nilp, .sl 1 e (some 2)]]) := by
  exact unr_ok (pl := ⟨[], []⟩) hT 100000 _ _ _ _ (unr_use H (by kernel_rfl))
theorem t109d {K : AV → Hp → Prop} {g s0 e0 : Nat} {n : Nat} {e : List (List AV)} {m s3 e3 : Nat} (hT : TabOk cfg (ctab [])) (H : K (tup []) [grow g s0 e0, grow m s3 e3, grow n 1 5, mem 113 [ptr 3 0, sl 1 (stripss 4 [grow g s0 e0, grow m s3 e3, grow n 1 5, mem 113 [ptr 3 0, sl 1 e (some 2)]] e) (some 2)]]) : ToEnd cfg 109 (bodyOf f109) (RetIn prog f109 4 K) ([.code []]) .normal ([(0, true, .ptr 3 0)]) ([.grow g s0 e0, .grow m s3 e3, .grow n 1 5, .mem 113 [.ptr 3 0, .sl 1 e (some 2)]]) := by
  exact unr_ok (pl := ⟨[], []⟩) hT 100000 _ _ _ _ (unr_use H (by kernel_rfl))
theorem t65b {K : AV → Hp → Prop} {g s0 e0 : Nat} {n : Nat} {e : List (List AV)} {m s3 e3 : Nat} {p : AV} {s : List UInt8} (hT : TabOk cfg (ctab [(109, copyA)])) (H : ∃ (acc1 : List UInt8), (1 = 1 ∧ 5 = 5 ∧ 113 = 113 ∧ 1 = 1 ∧ 2 = 2) ∧ (p = AV.nilp ∨ p = ptr 3 0) ∧ e = rb acc1 ∧ [ptr 3 0] = [ptr 3 0] ∧ gAnd (tagOk [grow g s0 e0, grow m s3 e3, grow n 1 5, mem 113 [ptr 3 0, sl 1 (rb acc1) (some 2)]] (length (rb acc1)) 1 5 (some 2) && true && true && decide ((length (rb acc1) + length s) * 1 ≤ 140737488355328) && true && true) (K (tup [int i64 (↑(length s) : Int), AV.nili]) [grow g s0 e0, grow m s3 e3, grow (length (rb acc1) + length s) 1 5, mem 113 [ptr 3 0, sl 1 (stripss 4 [grow g s0 e0, grow m s3 e3, grow (length (rb acc1) + length s) 1 5, mem 113 [ptr 3 0, sl 1 (rb acc1 ++ List.map (fun (b : UInt8) ↦ [int u8 (↑(toNat b) : Int)]) s) (some 2)]] (rb acc1 ++ List.map (fun (b : UInt8) ↦ [int u8 (↑(toNat b) : Int)]) s)) (some 2)]])) : ToEnd cfg 65 (bodyOf f65) (RetIn prog f65 4 K) ([.code []]) .normal ([(0, true, .ptr 3 0), (1, true, .str s)]) ([.grow g s0 e0, .grow m s3 e3, .grow n 1 5, .mem 113 [p, .sl 1 e (some 2)]]) := by
  exact unr_ok (pl := ⟨[], []⟩) hT 100000 _ _ _ _ (unr_use H (by kernel_rfl))
theorem t65 {K : AV → Hp → Prop} {g s0 e0 : Nat} {n : Nat} {e : List (List AV)} {p : AV} {s : List UInt8} (hT : TabOk cfg (ctab [(109, copyA)])) (H : ∃ (acc1 : List UInt8), (1 = 1 ∧ 5 = 5 ∧ 113 = 113 ∧ 1 = 1 ∧ 1 = 1) ∧ (p = AV.nilp ∨ p = ptr 2 0) ∧ e = rb acc1 ∧ [ptr 2 0] = [ptr 2 0] ∧ gAnd (tagOk [grow g s0 e0, grow n 1 5, mem 113 [ptr 2 0, sl 1 (rb acc1) (some 1)]] (length (rb acc1)) 1 5 (some 1) && true && true && decide ((length (rb acc1) + length s) * 1 ≤ 140737488355328) && true && true) (K (tup [int i64 (↑(length s) : Int), AV.nili]) [grow g s0 e0, grow (length (rb acc1) + length s) 1 5, mem 113 [ptr 2 0, sl 1 (stripss 3 [grow g s0 e0, grow (length (rb acc1) + length s) 1 5, mem 113 [ptr 2 0, sl 1 (rb acc1 ++ List.map (fun (b : UInt8) ↦ [int u8 (↑(toNat b) : Int)]) s) (some 1)]] (rb acc1 ++ List.map (fun (b : UInt8) ↦ [int u8 (↑(toNat b) : Int)]) s)) (some 1)]])) : ToEnd cfg 65 (bodyOf f65) (RetIn prog f65 3 K) ([.code []]) .normal ([(0, true, .ptr 2 0), (1, true, .str s)]) ([.grow g s0 e0, .grow n 1 5, .mem 113 [p, .sl 1 e (some 1)]]) := by
  exact unr_ok (pl := ⟨[], []⟩) hT 100000 _ _ _ _ (unr_use H (by kernel_rfl))
theorem t66a {K : AV → Hp → Prop} {g s0 e0 : Nat} {n : Nat} {e : List (List AV)}  (hT : TabOk cfg (ctab [])) (H : K (int i64 (↑(length e) : Int)) [grow g s0 e0, grow n 1 5, mem 113 [AV.nilp, sl 1 (stripss 3 [grow g s0 e0, grow n 1 5, mem 113 [AV.nilp, sl 1 e (some 1)]] e) (some 1)]]) : ToEnd cfg 66 (bodyOf f66) (RetIn prog f66 3 K) ([.code []]) .normal ([(0, true, .ptr 2 0)]) ([.grow g s0 e0, .grow n 1 5, .mem 113 [.nilp, .sl 1 e (some 1)]]) := by
  exact unr_ok (pl := ⟨[], []⟩) hT 100000 _ _ _ _ (unr_use H (by kernel_rfl))
theorem t66b {K : AV → Hp → Prop} {g s0 e0 : Nat} {n : Nat} {e : List (List AV)}  (hT : TabOk cfg (ctab [])) (H : K (int i64 (↑(length e) : Int)) [grow g s0 e0, grow n 1 5, mem 113 [ptr 2 0, sl 1 (stripss 3 [grow g s0 e0, grow n 1 5, mem 113 [ptr 2 0, sl 1 e (some 1)]] e) (some 1)]]) : ToEnd cfg 66 (bodyOf f66) (RetIn prog f66 3 K) ([.code []]) .normal ([(0, true, .ptr 2 0)]) ([.grow g s0 e0, .grow n 1 5, .mem 113 [.ptr 2 0, .sl 1 e (some 1)]]) := by
  exact unr_ok (pl := ⟨[], []⟩) hT 100000 _ _ _ _ (unr_use H (by kernel_rfl))
theorem t79a {v : AV} {s : List UInt8} {m : Int} (hT : TabOk cfg (ctab [(123, lineC), (124, sizeC), (63, prefC), (77, parseC), (65, writeA), (66, lenA'), (67, strA)])) (H : ToEnd cfg 79 (bodyOf f79) (RetIs prog f79 v) [code [1, 1, 1, 1, 1, 0, 1], Fm.scope [0, 1]] normal [(0, true, str s), (1, true, int i64 (max 0 (min m 262144))), (5, true, int i64 0), (8, true, ptr 2 0)] [grow 0 2 63, grow 0 1 5, mem 113 [AV.nilp, sl 1 [] (some 1)]]) : ToEnd cfg 79 (bodyOf f79) (RetIs prog f79 v) ([.code []]) .normal ([(0, true, .str s), (1, true, .int .i64 m)]) ([]) := by
  exact unr_ok (pl := ⟨[[1, 1, 1, 1, 1, 0, 1]], []⟩) hT 100000 _ _ _ _ (unr_use H (by kernel_rfl))
theorem t79b {v : AV} {p : AV} {s : List UInt8} {m u : Int} {g n : Nat} {e : List (List AV)} (hT : TabOk cfg (ctab [(123, lineC), (124, sizeC), (63, prefC), (77, parseC), (65, writeA), (66, lenA'), (67, strA)])) (H : gAnd (cutOb (length s) (some u) none) (∃ (s1 : List UInt8) (en2 : List UInt8) (m3 : Nat), length s1 ≤ 10000000 ∧ length en2 ≤ 100 ∧ m3 ≤ 10000000 ∧ [str (cutL s (some u) none), str [13, 10], int i64 2050] = [str s1, str en2, int i64 (↑m3 : Int)] ∧ ifP (snd (snd (lineA en2 m3 s1)) != 0) (tup [str [], int i64 0, sl 2 [] none, int i64 (snd (snd (lineA en2 m3 s1)))] = v) (∃ (s4 : List UInt8), length s4 ≤ 100000 ∧ [str (fst (lineA en2 m3 s1))] = [str s4] ∧ ifP (snd (sizeA s4) != 0) (tup [str [], int i64 0, sl 2 [] none, int i64 (snd (sizeA s4))] = v) (ifP ((↑(fst (sizeA s4)) : Int) == 0) (gAnd (cutOb (length s) (some (wrap i64 (u + (↑(fst (snd (lineA en2 m3 s1))) : Int)))) none) (∃ (s5 : List UInt8) (x6 : List UInt8), [str (cutL s (some (wrap i64 (u + (↑(fst (snd (lineA en2 m3 s1))) : Int)))) none), str [13, 10]] = [str s5, str x6] ∧ ifP (List.isPrefixOf x6 s5) (∃ (acc7 : List UInt8), (1 = 1 ∧ 5 = 5 ∧ 113 = 113 ∧ 1 = 1 ∧ 1 = 1) ∧ e = rb acc7 ∧ n = length acc7 ∧ [ptr 2 0] = [ptr 2 0] ∧ tup [str acc7, int i64 (wrap i64 (wrap i64 (u + (↑(fst (snd (lineA en2 m3 s1))) : Int)) + 2)), sl 2 [] none, int i64 0] = v) (gAnd (cutOb (length s) (some (wrap i64 (u + (↑(fst (snd (lineA en2 m3 s1))) : Int)))) none) (∃ (s8 : List UInt8) (en9 : List UInt8) (m10 : Nat), length s8 ≤ 10000000 ∧ length en9 ≤ 100 ∧ m10 ≤ 10000000 ∧ [str (cutL s (some (wrap i64 (u + (↑(fst (snd (lineA en2 m3 s1))) : Int)))) none), str [13, 10, 13, 10], int i64 8192] = [str s8, str en9, int i64 (↑m10 : Int)] ∧ ifP (snd (snd (lineA en9 m10 s8)) != 0) (tup [str [], int i64 0, sl 2 [] none, int i64 (snd (snd (lineA en9 m10 s8)))] = v) (gAnd (decide (length (fst (lineA en9 m10 s8)) + 2 ≤ 9223372036854775807)) (∃ (s11 : List UInt8), length s11 ≤ 100000 ∧ [str (fst (lineA en9 m10 s8) ++ [13, 10])] = [str s11] ∧ ifP (snd (parseF s11) == 0) (∃ (acc12 : List UInt8), (1 = 1 ∧ 5 = 5 ∧ 113 = 113 ∧ 1 = 1 ∧ 1 = 1) ∧ e = rb acc12 ∧ n = length acc12 ∧ [ptr 2 0] = [ptr 2 0] ∧ tup [str acc12, int i64 (wrap i64 (wrap i64 (u + (↑(fst (snd (lineA en2 m3 s1))) : Int)) + (↑(fst (snd (lineA en9 m10 s8))) : Int))), sl 2 (stripss 0 [grow g 2 63, Blk.dead, mem 113 [p, sl 1 (rb acc12) (some 1)]] (encFs (fst (parseF s11)))) none, int i64 0] = v) (tup [str [], int i64 0, sl 2 [] none, int i64 (snd (parseF s11))] = v))))))) (∃ (acc13 : List UInt8), (1 = 1 ∧ 5 = 5 ∧ 113 = 113 ∧ 1 = 1 ∧ 1 = 1) ∧ (p = AV.nilp ∨ p = ptr 2 0) ∧ e = rb acc13 ∧ n = length acc13 ∧ [ptr 2 0] = [ptr 2 0] ∧ ifP (decide ((↑(fst (sizeA s4)) : Int) > wrap i64 (m - (↑(length acc13) : Int)))) (tup [str [], int i64 0, sl 2 [] none, int i64 3] = v) (ifP (decide ((↑(fst (sizeA s4)) : Int) > wrap i64 ((↑(length s) : Int) - wrap i64 (u + (↑(fst (snd (lineA en2 m3 s1))) : Int))))) (tup [str [], int i64 0, sl 2 [] none, int i64 6] = v) (gAnd (cutOb (length s) (some (wrap i64 (u + (↑(fst (snd (lineA en2 m3 s1))) : Int)))) (some (wrap i64 (wrap i64 (u + (↑(fst (snd (lineA en2 m3 s1))) : Int)) + (↑(fst (sizeA s4)) : Int))))) (∃ (acc14 : List UInt8) (x15 : List UInt8), (1 = 1 ∧ 5 = 5 ∧ 113 = 113 ∧ 1 = 1 ∧ 1 = 1) ∧ (p = AV.nilp ∨ p = ptr 2 0) ∧ rb acc13 = rb acc14 ∧ length acc13 = length acc14 ∧ length acc14 + length x15 ≤ 1000000000 ∧ [ptr 2 0, str (cutL s (some (wrap i64 (u + (↑(fst (snd (lineA en2 m3 s1))) : Int)))) (some (wrap i64 (wrap i64 (u + (↑(fst (snd (lineA en2 m3 s1))) : Int)) + (↑(fst (sizeA s4)) : Int)))))] = [ptr 2 0, str x15] ∧ gAnd (cutOb (length s) (some (wrap i64 (wrap i64 (u + (↑(fst (snd (lineA en2 m3 s1))) : Int)) + (↑(fst (sizeA s4)) : Int)))) none) (∃ (s16 : List UInt8) (x17 : List UInt8), [str (cutL s (some (wrap i64 (wrap i64 (u + (↑(fst (snd (lineA en2 m3 s1))) : Int)) + (↑(fst (sizeA s4)) : Int)))) none), str [13, 10]] = [str s16, str x17] ∧ ifP (!List.isPrefixOf x17 s16) (∃ (s18 : List UInt8) (x19 : List UInt8), [str [13, 10], str (cutL s (some (wrap i64 (wrap i64 (u + (↑(fst (snd (lineA en2 m3 s1))) : Int)) + (↑(fst (sizeA s4)) : Int)))) none)] = [str s18, str x19] ∧ ifP (List.isPrefixOf x19 s18) (tup [str [], int i64 0, sl 2 [] none, int i64 6] = v) (tup [str [], int i64 0, sl 2 [] none, int i64 4] = v)) (ToEnd cfg 79 (bodyOf f79) (RetIs prog f79 v) [code [3, 0, 1], Fm.scope [0, 1]] normal [(5, true, int i64 (wrap i64 (wrap i64 (wrap i64 (u + (↑(fst (snd (lineA en2 m3 s1))) : Int)) + (↑(fst (sizeA s4)) : Int)) + 2))), (68, true, int i64 (wrap i64 (wrap i64 (wrap i64 (u + (↑(fst (snd (lineA en2 m3 s1))) : Int)) + (↑(fst (sizeA s4)) : Int)) + 2))), (67, true, int i64 (wrap i64 (wrap i64 (u + (↑(fst (snd (lineA en2 m3 s1))) : Int)) + (↑(fst (sizeA s4)) : Int)))), (0, true, str s), (1, true, int i64 m), (5, true, int i64 (wrap i64 (wrap i64 (u + (↑(fst (snd (lineA en2 m3 s1))) : Int)) + (↑(fst (sizeA s4)) : Int)))), (8, true, ptr 2 0)] [grow g 2 63, grow (length (acc14 ++ x15)) 1 5, mem 113 [ptr 2 0, sl 1 (rb (acc14 ++ x15)) (some 1)]])))))))))) : ToEnd cfg 79 (bodyOf f79) (RetIs prog f79 v) ([.code [1, 1, 1, 1, 1, 0, 1], .scope [0, 1]]) .normal ([(0, true, .str s), (1, true, .int .i64 m), (5, true, .int .i64 u), (8, true, .ptr 2 0)]) ([.grow g 2 63, .grow n 1 5, .mem 113 [p, .sl 1 e (some 1)]]) := by
  exact unr_ok (pl := ⟨[[3, 0, 1]], []⟩) hT 100000 _ _ _ _ (unr_use H (by kernel_rfl))
theorem t79c {v : AV} {p : AV} {s : List UInt8} {m u a b c : Int} {g n : Nat} {e : List (List AV)} (hT : TabOk cfg (ctab [(123, lineC), (124, sizeC), (63, prefC), (77, parseC), (65, writeA), (66, lenA'), (67, strA)])) (H : ToEnd cfg 79 (bodyOf f79) (RetIs prog f79 v) [code [1, 3, 0, 1], Fm.scope [0, 1]] normal [(0, true, str s), (1, true, int i64 m), (5, true, int i64 u), (8, true, ptr 2 0)] [grow g 2 63, grow n 1 5, mem 113 [p, sl 1 e (some 1)]]) : ToEnd cfg 79 (bodyOf f79) (RetIs prog f79 v) ([.code [3, 0, 1], .scope [0, 1]]) .normal ([(5, true, .int .i64 u), (68, true, .int .i64 a), (67, true, .int .i64 b), (0, true, .str s), (1, true, .int .i64 m), (5, true, .int .i64 c), (8, true, .ptr 2 0)]) ([.grow g 2 63, .grow n 1 5, .mem 113 [p, .sl 1 e (some 1)]]) := by
  exact unr_ok (pl := ⟨[[1, 3, 0, 1]], []⟩) hT 100000 _ _ _ _ (unr_use H (by kernel_rfl))
end Go.Proofs.YtnncfdlpogjlkaaGreatDoor
end
section
namespace Go.Proofs.YtnncfdlpogjlkaaGreatDoor
open Go.Ai Go
set_option maxRecDepth 100000
theorem cok_hprim {C : Cfg} {k : Nat} {g : List AV → Hp → Option (AV × Hp)} {t : Con} (h1 : C.ok k = true) (h2 : C.hprim k = some g) (H : ∀ vs h K, t vs h K → ∃ v h', g vs h = some (v, h') ∧ K v h') : COk C k t := by
  intro l h K ht
  have ha : argsOf C k l = l := by simp [argsOf, h2]
  rw [ha] at ht; obtain ⟨v, h', hg, hk⟩ := H _ _ _ ht
  refine ⟨v, h', ⟨1, fun n hn => ?_⟩, hk⟩
  obtain ⟨m, rfl⟩ : ∃ m, n = m + 1 := ⟨n - 1, by omega⟩
  rw [call]; simp only [h1, h2, hg, Bool.not_true, cond_false]
theorem to_path {C : Cfg} {f : FuncId} {body : Code} {Q : Fr → Hp → Prop} {p q : List Nat} {st : List Fm} {F : Fr} {h : Hp} (e : codeAt body p = codeAt body q) (H : ToEnd C f body Q (.code q :: st) .normal F h) : ToEnd C f body Q (.code p :: st) .normal F h := by
  obtain ⟨x, F', h', h1, h2⟩ := H
  exact ⟨x, F', h', by rw [e]; exact h1, h2⟩
theorem hf109 : heapFn cfg 109 Tryz.f109 := (by refine ⟨?_, ?_, ?_, ?_, ?_, ?_⟩ <;> kernel_rfl)
theorem hf65 : heapFn cfg 65 Tryz.f65 := (by refine ⟨?_, ?_, ?_, ?_, ?_, ?_⟩ <;> kernel_rfl)
theorem hf66 : heapFn cfg 66 Tryz.f66 := (by refine ⟨?_, ?_, ?_, ?_, ?_, ?_⟩ <;> kernel_rfl)
theorem pf79 : pureFn cfg 79 Tryz.f79 := (by refine ⟨?_, ?_, ?_, ?_, ?_, ?_⟩ <;> kernel_rfl)
theorem c109 : COk cfg 109 copyA := by
  refine cok_heap hf109 fun vs h K ht => ?_
  unfold copyA at ht; split at ht
  · obtain ⟨acc, ⟨rfl, rfl, rfl, rfl, rfl⟩, hp, rfl, rfl, hk⟩ := ht
    rcases hp with rfl | rfl
    · refine t109a (ctab_ok ctab_nil) ?_; rw [stripss_rb]; exact hk
    · refine t109b (ctab_ok ctab_nil) ?_; rw [stripss_rb]; exact hk
  · obtain ⟨acc, ⟨rfl, rfl, rfl, rfl, rfl⟩, hp, rfl, rfl, hk⟩ := ht
    rcases hp with rfl | rfl
    · refine t109c (ctab_ok ctab_nil) ?_; rw [stripss_rb]; exact hk
    · refine t109d (ctab_ok ctab_nil) ?_; rw [stripss_rb]; exact hk
  · exact ht.elim
theorem c65 : COk cfg 65 writeA := by
  refine cok_heap hf65 fun vs h K ht => ?_
  unfold writeA at ht; split at ht
  · obtain ⟨acc, x, ⟨rfl, rfl, rfl, rfl, rfl⟩, hp, rfl, rfl, hl, rfl, hk⟩ := ht; refine t65 (ctab_ok (ctab_cons c109 ctab_nil)) ⟨acc, ⟨rfl, rfl, rfl, rfl, rfl⟩, hp, rfl, rfl, gAnd_intro ?_ ?_⟩
    · rw [rb_len, tag_ok rfl, decide_eq_true (by omega)]; rfl
    · have e : rb acc ++ x.map (fun (b : UInt8) => [AV.int IntKind.u8 ((UInt8.toNat b : Nat) : Int)]) = rb (acc ++ x) := (rb_app acc x).symm
      rw [e, stripss_rb, rb_len, ← List.length_append]; exact hk
  · obtain ⟨acc, x, ⟨rfl, rfl, rfl, rfl, rfl⟩, hp, rfl, rfl, hl, rfl, hk⟩ := ht; refine t65b (ctab_ok (ctab_cons c109 ctab_nil)) ⟨acc, ⟨rfl, rfl, rfl, rfl, rfl⟩, hp, rfl, rfl, gAnd_intro ?_ ?_⟩
    · rw [rb_len, tag_ok rfl, decide_eq_true (by omega)]; rfl
    · have e : rb acc ++ x.map (fun (b : UInt8) => [AV.int IntKind.u8 ((UInt8.toNat b : Nat) : Int)]) = rb (acc ++ x) := (rb_app acc x).symm
      rw [e, stripss_rb, rb_len, ← List.length_append]; exact hk
  · exact ht.elim
theorem c66 : COk cfg 66 lenA' := by
  refine cok_heap hf66 fun vs h K ht => ?_
  unfold lenA' at ht; split at ht
  · obtain ⟨acc, ⟨rfl, rfl, rfl, rfl, rfl⟩, hp, rfl, rfl, rfl, hk⟩ := ht
    rcases hp with rfl | rfl
    · refine t66a (ctab_ok ctab_nil) ?_; rw [stripss_rb, rb_len]; exact hk
    · refine t66b (ctab_ok ctab_nil) ?_; rw [stripss_rb, rb_len]; exact hk
  · exact ht.elim
theorem bytesA_rb : ∀ s : List UInt8, bytesA (rb s) = some s
  | [] => rfl
  | c :: r => by
    have ih := bytesA_rb r; have hc := c.toNat_lt; have e : rb (c :: r) = [AV.int .u8 ((c.toNat : Nat) : Int)] :: rb r := rfl
    have b : byteA [AV.int .u8 ((c.toNat : Nat) : Int)] = some c := by
      simp only [byteA]
      rw [decide_eq_true (by omega), decide_eq_true (by omega)]
      simp
    rw [e, bytesA, ih, b]
theorem c67 : COk cfg 67 strA := by
  refine cok_hprim (by kernel_rfl) (by kernel_rfl : cfg.hprim 67 = some (pString 5)) fun vs h K ht => ?_
  unfold strA at ht; split at ht
  · obtain ⟨acc, ⟨rfl, rfl, rfl, rfl, rfl⟩, rfl, rfl, rfl, hk⟩ := ht; refine ⟨_, _, ?_, hk⟩; unfold pString; simp only [List.getElem?_cons_succ, List.getElem?_cons_zero, bytesA_rb]; rw [rb_len, tag_ok rfl]; rfl
  · obtain ⟨acc, ⟨rfl, rfl, rfl, rfl, rfl⟩, rfl, rfl, rfl, hk⟩ := ht; refine ⟨_, _, ?_, hk⟩; unfold pString; simp only [List.getElem?_cons_succ, List.getElem?_cons_zero, bytesA_rb]; rw [rb_len, tag_ok rfl]; rfl
  · exact ht.elim
def decV (d : Dec) : AV := .tup [.str d.body, .int .i64 (d.used : Nat), .sl 2 (encFs d.tr) none, .int .i64 d.e]
theorem size_lt (s : List UInt8) : (sizeA s).1 < 4294967296 := by
  unfold sizeA sizeV; split
  · rename_i n hn; split at hn
    · cases hn
    split at hn
    · cases hn
    rename_i h8
    have hv : hexV 0 (s.takeWhile hexB) < 16 ^ 8 := hexV_pow (List.all_eq_true.2 fun c hc => takeWhile_mem hc) (by omega)
    split at hn
    · injection hn with hn; subst hn; exact hv
    · split at hn
      · injection hn with hn; subst hn; exact hv
      · cases hn
  · simp
theorem tab79 : TabOk cfg (ctab [(123, lineC), (124, sizeC), (63, prefC), (77, parseC), (65, writeA), (66, lenA'), (67, strA)]) :=
  ctab_ok (ctab_cons c123 (ctab_cons c124 (ctab_cons c63 (ctab_cons c77 (ctab_cons c65 (ctab_cons c66 (ctab_cons c67 ctab_nil)))))))
theorem cut_from {s : List UInt8} {u : Nat} : cutL s (some (u : Int)) none = s.drop u := by simp [cutL]
theorem cutOb_from {s : List UInt8} {u : Nat} (h : u ≤ s.length) : cutOb s.length (some (u : Int)) none = true := by simp [cutOb]; omega
theorem cut_mid {s : List UInt8} {u v : Nat} : cutL s (some (u : Int)) (some (v : Int)) = (s.drop u).take (v - u) := by
  simp only [cutL, Int.toNat_natCast]; rw [List.drop_take]
theorem cutOb_mid {s : List UInt8} {u v : Nat} (h : u ≤ v) (h2 : v ≤ s.length) : cutOb s.length (some (u : Int)) (some (v : Int)) = true := by simp [cutOb]; omega
theorem lineA_len (en s : List UInt8) (most : Nat) : (lineA en most s).1.length ≤ most ∧ (lineA en most s).2.1 ≤ s.length ∧ (lineA en most s).2.1 ≤ most := by
  unfold lineA; split
  · rename_i n hn; have := (fnd_some hn).2; simp at this ⊢; omega
  · simp
theorem loop79 {s : List UInt8} (hs : s.length ≤ lim) {M : Nat} (hM : M ≤ 262144) : ∀ (f : Nat) (u : Nat) (acc : List UInt8) (p : AV) (g : Nat), (p = .nilp ∨ p = .ptr 2 0) → u ≤ s.length → s.length - u < f → acc.length ≤ M →
    ToEnd cfg 79 (bodyOf Tryz.f79) (RetIs Tryz.prog Tryz.f79 (decV (decG M f (s.drop u) acc u))) [.code [1, 1, 1, 1, 1, 0, 1], .scope [0, 1]] .normal
      [(0, true, .str s), (1, true, .int .i64 M), (5, true, .int .i64 u), (8, true, .ptr 2 0)] [.grow g 2 63, .grow acc.length 1 5, .mem 113 [p, .sl 1 (rb acc) (some 1)]] := by
  intro f
  induction f with
  | zero => intro u acc p g hp hu hf ha; omega
  | succ f ih =>
    intro u acc p g hp hu hf ha; have hs' : s.length ≤ 10000000 := hs
    have hdl : (s.drop u).length ≤ 10000000 := by rw [List.length_drop]; omega
    obtain ⟨l1, l2, l3⟩ := lineA_len crlf (s.drop u) 2050; have hsz := size_lt (lineA crlf 2050 (s.drop u)).1
    refine t79b tab79 (gAnd_intro (cutOb_from hu) ⟨s.drop u, crlf, 2050, hdl, by decide, by omega, by rw [cut_from]; rfl, ifP_intro (fun a => ?_) fun a => ⟨_, by omega, rfl, ifP_intro (fun b => ?_) fun b => ?_⟩⟩)
    · have ha' : (lineA crlf 2050 (s.drop u)).2.2 ≠ 0 := ne_of_bne a; rw [decG, if_pos ha']; rfl
    · have ha' := eq_of_bne a; have hb' : (sizeA (lineA crlf 2050 (s.drop u)).1).2 ≠ 0 := ne_of_bne b
      rw [decG, if_neg (by rw [ha']; simp), if_pos hb']; rfl
    have ha' := eq_of_bne a; have hb' := eq_of_bne b; have ed : decG M (f + 1) (s.drop u) acc u = _ := decG.eq_2 M (s.drop u) acc u f
    rw [if_neg (by rw [ha']; simp), if_neg (by rw [hb']; simp)] at ed
    generalize hn : (sizeA (lineA crlf 2050 (s.drop u)).1).1 = n at *; generalize hk : (lineA crlf 2050 (s.drop u)).2.1 = k at *
    have hk1 : k ≤ s.length - u := by rw [List.length_drop] at l2; omega
    have w1 : IntKind.wrap .i64 ((u : Int) + (k : Int)) = ((u + k : Nat) : Int) := by rw [wrap_in (by omega) (by omega)]; omega
    have hdk : (s.drop u).drop k = s.drop (u + k) := by rw [List.drop_drop]
    rw [hdk] at ed; rw [w1]
    refine ifP_intro (fun c => ?_) fun c => ?_
    · -- the last one
      have hc : n = 0 := by simpa using c
      rw [if_pos hc] at ed
      refine gAnd_intro (cutOb_from (by omega)) ⟨s.drop (u + k), crlf, by rw [cut_from]; rfl, ifP_intro (fun d => ⟨acc, ⟨rfl, rfl, rfl, rfl, rfl⟩, rfl, rfl, rfl, ?_⟩) fun d => gAnd_intro (cutOb_from (by omega)) ?_⟩
      · rw [ed]; unfold lastG; rw [if_pos d]
        have w2 : IntKind.wrap .i64 (((u + k : Nat) : Int) + 2) = ((u + k + 2 : Nat) : Int) := by rw [wrap_in (by omega) (by omega)]; omega
        rw [w2]; rfl
      · obtain ⟨m1, m2, m3⟩ := lineA_len crlf2 (s.drop (u + k)) 8192
        refine ⟨s.drop (u + k), crlf2, 8192, by rw [List.length_drop]; omega, by decide, by omega, by rw [cut_from]; rfl, ?_⟩
        unfold lastG at ed
        rw [if_neg (by rw [d]; simp)] at ed
        refine ifP_intro (fun e => ?_) fun e => gAnd_intro (decide_eq_true (by omega)) ⟨_, by rw [List.length_append]; simp; omega, rfl, ?_⟩
        · rw [if_pos (ne_of_bne e)] at ed; rw [ed]; rfl
        · rw [if_neg (by rw [eq_of_bne e]; simp)] at ed
          refine ifP_intro (fun q => ⟨acc, ⟨rfl, rfl, rfl, rfl, rfl⟩, rfl, rfl, rfl, ?_⟩) fun q => ?_
          · have hq : (parseF ((lineA crlf2 8192 (s.drop (u + k))).1 ++ crlf)).2 = 0 := beq_iff_eq.1 q
            rw [if_neg (by rw [hq]; simp)] at ed
            rw [ed, stripss_encFs]
            have hz : (lineA crlf2 8192 (s.drop (u + k))).2.1 ≤ s.length - (u + k) := by rw [List.length_drop] at m2; exact m2
            have w2 : IntKind.wrap .i64 (((u + k : Nat) : Int) + (((lineA crlf2 8192 (s.drop (u + k))).2.1 : Nat) : Int)) = ((u + k + (lineA crlf2 8192 (s.drop (u + k))).2.1 : Nat) : Int) := by rw [wrap_in (by omega) (by omega)]; omega
            rw [w2]; rfl
          · have hq : (parseF ((lineA crlf2 8192 (s.drop (u + k))).1 ++ crlf)).2 ≠ 0 := beq_eq_false_iff_ne.1 q; rw [if_pos hq] at ed; rw [ed]; rfl
    · -- one more
      have hc : n ≠ 0 := by simpa using c
      rw [if_neg hc] at ed
      have w2 : IntKind.wrap .i64 ((M : Int) - (acc.length : Int)) = ((M - acc.length : Nat) : Int) := by rw [wrap_in (by omega) (by omega)]; omega
      have w3 : IntKind.wrap .i64 ((s.length : Int) - ((u + k : Nat) : Int)) = ((s.length - (u + k) : Nat) : Int) := by rw [wrap_in (by omega) (by omega)]; omega
      have w4 : IntKind.wrap .i64 (((u + k : Nat) : Int) + (n : Int)) = ((u + k + n : Nat) : Int) := by rw [wrap_in (by omega) (by omega)]; omega
      refine ⟨acc, ⟨rfl, rfl, rfl, rfl, rfl⟩, hp, rfl, rfl, rfl, ?_⟩; rw [w2, w3, w4]
      refine ifP_intro (fun d => ?_) fun d => ifP_intro (fun e => ?_) fun e => ?_
      · have : restG M n (s.drop (u + k)) acc = 3 := by
          unfold restG
          rw [if_pos (by simp only [gt_iff_lt, decide_eq_true_eq] at d; omega)]
        rw [this, if_pos (by decide)] at ed
        rw [ed]; rfl
      · have : restG M n (s.drop (u + k)) acc = 6 := by
          unfold restG
          rw [if_neg (by simp only [gt_iff_lt, decide_eq_false_iff_not] at d; omega), if_pos (by simp only [gt_iff_lt, decide_eq_true_eq] at e; rw [List.length_drop]; omega)]
        rw [this, if_pos (by decide)] at ed
        rw [ed]; rfl
      · have hd : n ≤ M - acc.length := by simp only [gt_iff_lt, decide_eq_false_iff_not] at d; omega
        have he : n ≤ s.length - (u + k) := by simp only [gt_iff_lt, decide_eq_false_iff_not] at e; omega
        have hlt : ((s.drop (u + k)).take n).length = n := by rw [List.length_take, List.length_drop]; omega
        have hrest : restG M n (s.drop (u + k)) acc = if crlf.isPrefixOf (s.drop (u + k + n)) = true then 0 else if (s.drop (u + k + n)).isPrefixOf crlf = true then 6 else 4 := by
          unfold restG
          rw [if_neg (by omega), if_neg (by rw [List.length_drop]; omega), List.drop_drop]
        refine gAnd_intro (cutOb_mid (by omega) (by omega)) ⟨acc, (s.drop (u + k)).take n, ⟨rfl, rfl, rfl, rfl, rfl⟩, hp, rfl, rfl, by omega, by rw [cut_mid, show u + k + n - (u + k) = n by omega], gAnd_intro (cutOb_from (by omega)) ⟨s.drop (u + k + n), crlf, by rw [cut_from]; rfl, ifP_intro (fun q => ⟨crlf, s.drop (u + k + n), by rw [cut_from]; rfl, ?_⟩) fun q => ?_⟩⟩
        · have hq : ¬ crlf.isPrefixOf (s.drop (u + k + n)) = true := by
            rw [Bool.not_eq_true'] at q; rw [q]; exact Bool.false_ne_true
          rw [if_neg hq] at hrest
          refine ifP_intro (fun z => ?_) fun z => ?_
          · rw [if_pos z] at hrest
            rw [hrest, if_pos (by decide)] at ed
            rw [ed]; rfl
          · rw [if_neg (by rw [z]; simp)] at hrest
            rw [hrest, if_pos (by decide)] at ed
            rw [ed]; rfl
        · have hq : crlf.isPrefixOf (s.drop (u + k + n)) = true := by
            rw [Bool.not_eq_false'] at q; exact q
          rw [if_pos hq] at hrest
          rw [hrest, if_neg (by decide)] at ed
          have hpl := (List.isPrefixOf_iff_prefix.1 hq).length_le
          have hpl : 2 ≤ s.length - (u + k + n) := by simpa [crlf] using hpl
          have w5 : IntKind.wrap .i64 (((u + k + n : Nat) : Int) + 2) = ((u + k + n + 2 : Nat) : Int) := by rw [wrap_in (by omega) (by omega)]; omega
          rw [w5]
          have hdr : (s.drop u).drop (k + n + 2) = s.drop (u + k + n + 2) := by rw [List.drop_drop]; congr 1; omega
          rw [hdr] at ed; rw [ed]; refine t79c tab79 ?_
          refine to_path (q := [1, 1, 1, 1, 1, 0, 1]) (by kernel_rfl) ?_
          exact ih (u + k + n + 2) (acc ++ (s.drop (u + k)).take n) (.ptr 2 0) g (.inr rfl) (by omega) (by omega) (by rw [List.length_append, hlt]; omega)
theorem clip_int (m : Int) : max 0 (min m 262144) = ((clip m : Nat) : Int) := by unfold clip; omega
theorem c79 : COk cfg 79 decC := by
  refine cok_pure pf79 fun vs h K ht => ?_
  obtain ⟨s, m, hs, h0, h1, rfl, hk⟩ := ht; refine ⟨_, hk, t79a tab79 ?_⟩; rw [clip_int]
  exact loop79 hs (by unfold clip; omega) (s.length + 1) 0 [] .nilp 0 (.inl rfl) (Nat.zero_le _) (by omega) (by simp)
end Go.Proofs.YtnncfdlpogjlkaaGreatDoor
end
section
namespace Go.Proofs.YtnncfdlpogjlkaaGreatDoor
open Go.Ai Go
set_option maxRecDepth 100000
open Go.IntKind (wrap i64 u8)
open Go.Ai.AV (int str sl tup bool agg ptr)
open Go.Ai.Blk (mem grow)
open Go.Ai.Fm (code block loop)
open Go.Ai.XT (normal)
open List (length)
open Prod (fst snd)
open UInt8 (toNat)
open Tryz (prog f86)
theorem t86a {v : AV} {s : List UInt8} {m : Int} (hT : TabOk cfg (ctab [(134, headC'), (135, sizeRC), (136, endsC), (137, tailC'), (40, parseC)])) (H : ifP (decide (m > 262144)) (ToEnd cfg 86 (bodyOf f86) (RetIs prog f86 v) [code [0, 0, 1, 1, 1, 1, 1], block 0, code [1, 1, 1, 1, 1, 1]] normal [(0, true, str s), (1, true, int i64 262144), (8, true, sl 1 [] (some 1)), (9, true, int i64 0)] [grow 0 2 63, grow 0 1 5]) (ifP (decide (m < 0)) (ToEnd cfg 86 (bodyOf f86) (RetIs prog f86 v) [code [0, 0, 1, 1, 1, 1, 1], block 0, code [1, 1, 1, 1, 1, 1]] normal [(0, true, str s), (1, true, int i64 0), (8, true, sl 1 [] (some 1)), (9, true, int i64 0)] [grow 0 2 63, grow 0 1 5]) (ToEnd cfg 86 (bodyOf f86) (RetIs prog f86 v) [code [0, 0, 1, 1, 1, 1, 1], block 0, code [1, 1, 1, 1, 1, 1]] normal [(0, true, str s), (1, true, int i64 m), (8, true, sl 1 [] (some 1)), (9, true, int i64 0)] [grow 0 2 63, grow 0 1 5]))) : ToEnd cfg 86 (bodyOf f86) (RetIs prog f86 v) ([.code []]) .normal ([(0, true, .str s), (1, true, .int .i64 m)]) ([]) := by
  exact unr_ok (pl := ⟨[[0, 0, 1, 1, 1, 1, 1]], []⟩) hT 100000 _ _ _ _ (unr_use H (by kernel_rfl))
theorem t86b {v : AV}   {s0 : List UInt8} {i1 : Int} {e8 : List (List AV)} {i9 : Int} {g0 : Nat} {g1 : Nat} (hT : TabOk cfg (ctab [(134, headC'), (135, sizeRC), (136, endsC), (137, tailC'), (40, parseC)])) (H : ∃ (s1 : List UInt8) (n2 : Nat), length s1 ≤ 1000000 ∧ n2 ≤ length s1 ∧ [str s0, int i64 i9] = [str s1, int i64 (↑n2 : Int)] ∧ ifP (snd (headA s1 n2) != 0) (tup [str [], int i64 0, sl 2 [] none, int i64 (snd (headA s1 n2))] = v) (gAnd (cutOb (length s0) (some i9) (some (↑(fst (headA s1 n2)) : Int))) (∃ (s3 : List UInt8), length s3 ≤ 100000 ∧ [str (cutL s0 (some i9) (some (↑(fst (headA s1 n2)) : Int)))] = [str s3] ∧ ifP (decide (sizeN s3 < 0)) (tup [str [], int i64 0, sl 2 [] none, int i64 4] = v) (ifP (sizeN s3 == 0) (∃ (s4 : List UInt8) (n5 : Nat), length s4 ≤ 1000000 ∧ n5 ≤ length s4 ∧ [str s0, int i64 (wrap i64 ((↑(fst (headA s1 n2)) : Int) + 2))] = [str s4, int i64 (↑n5 : Int)] ∧ ifP (snd (tailA s4 n5) != 0) (tup [str [], int i64 0, sl 2 [] none, int i64 (snd (tailA s4 n5))] = v) (gAnd (cutOb (length s0) (some (wrap i64 ((↑(fst (headA s1 n2)) : Int) + 2))) (some (wrap i64 ((↑(fst (tailA s4 n5)) : Int) - 2)))) (∃ (s6 : List UInt8), length s6 ≤ 100000 ∧ [str (cutL s0 (some (wrap i64 ((↑(fst (headA s1 n2)) : Int) + 2))) (some (wrap i64 ((↑(fst (tailA s4 n5)) : Int) - 2))))] = [str s6] ∧ ifP (snd (parseF s6) != 0) (tup [str [], int i64 0, sl 2 [] none, int i64 (snd (parseF s6))] = v) (gAnd (rowsB e8) (tup [str (List.map rowV e8), int i64 (↑(fst (tailA s4 n5)) : Int), sl 2 (stripss 0 [grow g0 2 63, grow g1 1 5] (encFs (fst (parseF s6)))) none, int i64 0] = v))))) (ifP (decide (wrap i64 ((↑(length e8) : Int) + sizeN s3) > i1)) (tup [str [], int i64 0, sl 2 [] none, int i64 3] = v) (ifP (decide (wrap i64 (wrap i64 ((↑(fst (headA s1 n2)) : Int) + 2) + sizeN s3) > (↑(length s0) : Int))) (tup [str [], int i64 0, sl 2 [] none, int i64 6] = v) (gAnd (cutOb (length s0) (some (wrap i64 ((↑(fst (headA s1 n2)) : Int) + 2))) (some (wrap i64 (wrap i64 ((↑(fst (headA s1 n2)) : Int) + 2) + sizeN s3)))) (gAnd (tagOk [grow g0 2 63, grow g1 1 5] (length e8) 1 5 (some 1) && true && true && decide ((length e8 + length (cutL s0 (some (wrap i64 ((↑(fst (headA s1 n2)) : Int) + 2))) (some (wrap i64 (wrap i64 ((↑(fst (headA s1 n2)) : Int) + 2) + sizeN s3))))) * 1 ≤ 140737488355328) && true && true) (ifP (wrap i64 (wrap i64 ((↑(fst (headA s1 n2)) : Int) + 2) + sizeN s3) == (↑(length s0) : Int)) (tup [str [], int i64 0, sl 2 [] none, int i64 6] = v) (ifP (wrap i64 (wrap i64 (wrap i64 ((↑(fst (headA s1 n2)) : Int) + 2) + sizeN s3) + 1) == (↑(length s0) : Int)) (gAnd (inR (wrap i64 (wrap i64 ((↑(fst (headA s1 n2)) : Int) + 2) + sizeN s3)) (length s0)) (ifP ((↑(toNat (List.getD s0 (Int.toNat (wrap i64 (wrap i64 ((↑(fst (headA s1 n2)) : Int) + 2) + sizeN s3))) 0)) : Int) == 13) (tup [str [], int i64 0, sl 2 [] none, int i64 6] = v) (∃ (s7 : List UInt8) (n8 : Nat), length s7 ≤ 10000000 ∧ n8 ≤ 10000000 ∧ [str s0, int i64 (wrap i64 (wrap i64 ((↑(fst (headA s1 n2)) : Int) + 2) + sizeN s3))] = [str s7, int i64 (↑n8 : Int)] ∧ ifP (!endsB s7 n8) (tup [str [], int i64 0, sl 2 [] none, int i64 4] = v) (ToEnd cfg 86 (bodyOf f86) (RetIs prog f86 v) [code [0, 0, 1, 1, 1, 1, 1], block 0, code [1, 1, 1, 1, 1, 1]] normal [(0, true, str s0), (1, true, int i64 i1), (8, true, sl 1 (e8 ++ List.map (fun (b : UInt8) ↦ [int u8 (↑(toNat b) : Int)]) (cutL s0 (some (wrap i64 ((↑(fst (headA s1 n2)) : Int) + 2))) (some (wrap i64 (wrap i64 ((↑(fst (headA s1 n2)) : Int) + 2) + sizeN s3))))) (some 1)), (9, true, int i64 (wrap i64 (wrap i64 (wrap i64 ((↑(fst (headA s1 n2)) : Int) + 2) + sizeN s3) + 2)))] [grow g0 2 63, grow (length e8 + length (cutL s0 (some (wrap i64 ((↑(fst (headA s1 n2)) : Int) + 2))) (some (wrap i64 (wrap i64 ((↑(fst (headA s1 n2)) : Int) + 2) + sizeN s3))))) 1 5])))) (∃ (s9 : List UInt8) (n10 : Nat), length s9 ≤ 10000000 ∧ n10 ≤ 10000000 ∧ [str s0, int i64 (wrap i64 (wrap i64 ((↑(fst (headA s1 n2)) : Int) + 2) + sizeN s3))] = [str s9, int i64 (↑n10 : Int)] ∧ ifP (!endsB s9 n10) (tup [str [], int i64 0, sl 2 [] none, int i64 4] = v) (ToEnd cfg 86 (bodyOf f86) (RetIs prog f86 v) [code [0, 0, 1, 1, 1, 1, 1], block 0, code [1, 1, 1, 1, 1, 1]] normal [(0, true, str s0), (1, true, int i64 i1), (8, true, sl 1 (e8 ++ List.map (fun (b : UInt8) ↦ [int u8 (↑(toNat b) : Int)]) (cutL s0 (some (wrap i64 ((↑(fst (headA s1 n2)) : Int) + 2))) (some (wrap i64 (wrap i64 ((↑(fst (headA s1 n2)) : Int) + 2) + sizeN s3))))) (some 1)), (9, true, int i64 (wrap i64 (wrap i64 (wrap i64 ((↑(fst (headA s1 n2)) : Int) + 2) + sizeN s3) + 2)))] [grow g0 2 63, grow (length e8 + length (cutL s0 (some (wrap i64 ((↑(fst (headA s1 n2)) : Int) + 2))) (some (wrap i64 (wrap i64 ((↑(fst (headA s1 n2)) : Int) + 2) + sizeN s3))))) 1 5])))))))))))) : ToEnd cfg 86 (bodyOf f86) (RetIs prog f86 v) ([.code [0, 0, 1, 1, 1, 1, 1], block 0, code [1, 1, 1, 1, 1, 1]]) .normal ([(0, true, str s0), (1, true, int i64 i1), (8, true, sl 1 e8 (some 1)), (9, true, int i64 i9)]) ([grow g0 2 63, grow g1 1 5]) := by
  exact ends_round (pl := ⟨[[0, 0, 1, 1, 1, 1, 1]], []⟩) hT 100000 (by kernel_rfl) (unr_use H (by kernel_rfl))
end Go.Proofs.YtnncfdlpogjlkaaGreatDoor
end
section
namespace Go.Proofs.YtnncfdlpogjlkaaGreatDoor
open Go.Ai Go
set_option maxRecDepth 100000
theorem pf86 : pureFn cfg 86 Tryz.f86 := (by refine ⟨?_, ?_, ?_, ?_, ?_, ?_⟩ <;> kernel_rfl)
theorem tab86 : TabOk cfg (ctab [(134, headC'), (135, sizeRC), (136, endsC), (137, tailC'), (40, parseC)]) :=
  ctab_ok (ctab_cons c134 (ctab_cons c135 (ctab_cons c136 (ctab_cons c137 (ctab_cons c40 ctab_nil)))))
theorem take_crlf {s : List UInt8} {i : Nat} (h : crlf2.isPrefixOf (s.drop i) = true) : s.take (i + 2) = s.take i ++ crlf := by
  obtain ⟨t, ht⟩ := List.isPrefixOf_iff_prefix.1 h; rw [List.take_add, ← ht]; rfl
theorem sizeN_of {s : List UInt8} {n : Nat} (h : sizeV s = some n) : sizeN s = n := by unfold sizeN; rw [h]
theorem sizeN_no {s : List UInt8} (h : sizeV s = none) : sizeN s = -1 := by unfold sizeN; rw [h]
theorem rb_map (s : List UInt8) : s.map (fun (b : UInt8) => [AV.int IntKind.u8 ((UInt8.toNat b : Nat) : Int)]) = rb s := rfl
theorem loop86 {s : List UInt8} (hs : s.length ≤ 100000) {M : Nat} (hM : M ≤ 262144) : ∀ (f : Nat) (u : Nat) (acc : List UInt8) (g : Nat), u ≤ s.length → s.length - u < f → acc.length ≤ M →
    ToEnd cfg 86 (bodyOf Tryz.f86) (RetIs Tryz.prog Tryz.f86 (decV (decG M f (s.drop u) acc u))) [.code [0, 0, 1, 1, 1, 1, 1], .block 0, .code [1, 1, 1, 1, 1, 1]] .normal
      [(0, true, .str s), (1, true, .int .i64 M), (8, true, .sl 1 (rb acc) (some 1)), (9, true, .int .i64 u)] [.grow g 2 63, .grow acc.length 1 5] := by
  intro f
  induction f with
  | zero => intro u acc g hu hf ha; omega
  | succ f ih =>
    intro u acc g hu hf ha; have ed : decG M (f + 1) (s.drop u) acc u = _ := decG.eq_2 M (s.drop u) acc u f
    refine t86b tab86 ⟨s, u, by omega, hu, rfl, ?_⟩
    cases hh : fnd crlf ((s.drop u).take 2050) with
    | none =>
      have e1 : headA s u = (0, if 2050 ≤ (s.drop u).length then 3 else 6) := by unfold headA; rw [hh]
      have e2 : lineA crlf 2050 (s.drop u) = ([], 0, if 2050 ≤ (s.drop u).length then 3 else 6) := by unfold lineA; rw [hh]
      have ne : (if 2050 ≤ (s.drop u).length then (3 : Int) else 6) ≠ 0 := by split <;> decide
      rw [e2, if_pos ne] at ed; rw [e1]
      refine ifP_intro (fun _ => by rw [ed]; rfl) fun a => absurd (eq_of_bne a) ne
    | some i =>
      obtain ⟨f1, f2⟩ := fnd_some hh
      have hi : i + 2 ≤ s.length - u := by simp [crlf] at f2; omega
      have hi2 : i + 2 ≤ 2050 := by simp [crlf] at f2; omega
      have e1 : headA s u = (u + i, 0) := by unfold headA; rw [hh]
      have e2 : lineA crlf 2050 (s.drop u) = ((s.drop u).take i, i + 2, 0) := by unfold lineA; rw [hh]; rfl
      rw [e2] at ed; simp only at ed
      rw [if_neg (by simp)] at ed
      rw [e1]
      have hL : ((s.drop u).take i).length ≤ 2050 := by rw [List.length_take]; omega
      refine ifP_intro (fun a => by simp at a) fun _ => gAnd_intro (cutOb_mid (by omega) (by omega)) ⟨(s.drop u).take i, by omega, by rw [cut_mid, show u + i - u = i by omega], ?_⟩
      have hsz := size_lt ((s.drop u).take i); unfold sizeA at ed hsz
      cases hv : sizeV ((s.drop u).take i) with
      | none =>
        rw [hv] at ed; rw [sizeN_no hv]
        refine ifP_intro (fun _ => by rw [ed, if_pos (by decide)]; rfl) fun a => by simp at a
      | some n =>
        rw [hv] at ed hsz; simp only at ed hsz
        rw [if_neg (by simp), List.drop_drop] at ed
        rw [sizeN_of hv]
        have w1 : IntKind.wrap .i64 (((u + i : Nat) : Int) + 2) = ((u + (i + 2) : Nat) : Int) := by rw [wrap_in (by omega) (by omega)]; omega
        have w2 : IntKind.wrap .i64 (((u + (i + 2) : Nat) : Int) + (n : Int)) = ((u + (i + 2) + n : Nat) : Int) := by rw [wrap_in (by omega) (by omega)]; omega
        have w3 : IntKind.wrap .i64 (((rb acc).length : Int) + (n : Int)) = ((acc.length + n : Nat) : Int) := by rw [rb_len, wrap_in (by omega) (by omega)]; omega
        rw [w1, w2, w3]
        refine ifP_intro (fun a => by simp only [decide_eq_true_eq] at a; omega) fun _ => ifP_intro (fun c => ?_) fun c => ?_
        · -- the last one
          have hc : n = 0 := by rw [beq_iff_eq] at c; omega
          rw [if_pos hc] at ed
          refine ⟨s, u + (i + 2), by omega, by omega, rfl, ?_⟩
          unfold lastG at ed
          by_cases hE : endsB s (u + (i + 2)) = true
          · have e3 : tailA s (u + (i + 2)) = (u + (i + 2) + 2, 0) := by unfold tailA; rw [if_pos hE]
            have hE' : crlf.isPrefixOf (s.drop (u + (i + 2))) = true := hE; rw [if_pos hE'] at ed; have hpl := (List.isPrefixOf_iff_prefix.1 hE').length_le
            have hpl : 2 ≤ s.length - (u + (i + 2)) := by simpa [crlf] using hpl
            have w4 : IntKind.wrap .i64 (((u + (i + 2) + 2 : Nat) : Int) - 2) = ((u + (i + 2) : Nat) : Int) := by rw [wrap_in (by omega) (by omega)]; omega
            rw [e3]
            refine ifP_intro (fun a => by simp at a) fun _ => ?_
            rw [w4]; have hp : parseF [] = ([], 0) := rfl
            refine gAnd_intro (cutOb_mid (by omega) (by omega)) ⟨[], by simp, by rw [cut_mid, Nat.sub_self]; rfl, ?_⟩
            rw [hp]
            refine ifP_intro (fun a => by simp at a) fun _ => gAnd_intro (rowsB_rb acc) ?_
            rw [rowV_rb, ed]; rfl
          · have hE' : ¬ crlf.isPrefixOf (s.drop (u + (i + 2))) = true := hE; rw [if_neg hE'] at ed
            cases ht : fnd crlf2 ((s.drop (u + (i + 2))).take 8192) with
            | none =>
              have e3 : tailA s (u + (i + 2)) = (0, if 8192 ≤ (s.drop (u + (i + 2))).length then 3 else 6) := by unfold tailA; rw [if_neg hE, ht]
              have e4 : lineA crlf2 8192 (s.drop (u + (i + 2))) = ([], 0, if 8192 ≤ (s.drop (u + (i + 2))).length then 3 else 6) := by unfold lineA; rw [ht]
              have ne : (if 8192 ≤ (s.drop (u + (i + 2))).length then (3 : Int) else 6) ≠ 0 := by split <;> decide
              rw [e4, if_pos ne] at ed; rw [e3]
              refine ifP_intro (fun _ => by rw [ed]; rfl) fun a => absurd (eq_of_bne a) ne
            | some j =>
              obtain ⟨g1, g2⟩ := fnd_some ht
              have hj : j + 4 ≤ s.length - (u + (i + 2)) := by simp [crlf2] at g2; omega
              have hj2 : j + 4 ≤ 8192 := by simp [crlf2] at g2; omega
              have g1' : crlf2.isPrefixOf ((s.drop (u + (i + 2))).drop j) = true := by
                rw [List.isPrefixOf_iff_prefix] at g1 ⊢; rw [List.drop_take] at g1; exact (List.prefix_take_iff.1 g1).1
              have e3 : tailA s (u + (i + 2)) = (u + (i + 2) + j + 4, 0) := by unfold tailA; rw [if_neg hE, ht]
              have e4 : lineA crlf2 8192 (s.drop (u + (i + 2))) = ((s.drop (u + (i + 2))).take j, j + 4, 0) := by unfold lineA; rw [ht]; rfl
              rw [e4] at ed; simp only at ed
              rw [if_neg (by simp)] at ed
              have w4 : IntKind.wrap .i64 (((u + (i + 2) + j + 4 : Nat) : Int) - 2) = ((u + (i + 2) + j + 2 : Nat) : Int) := by rw [wrap_in (by omega) (by omega)]; omega
              rw [e3]
              refine ifP_intro (fun a => by simp at a) fun _ => ?_
              rw [w4]
              refine gAnd_intro (cutOb_mid (by omega) (by omega)) ⟨(s.drop (u + (i + 2))).take j ++ crlf, by simp [crlf]; omega, by rw [cut_mid, show u + (i + 2) + j + 2 - (u + (i + 2)) = j + 2 by omega, take_crlf g1'], ?_⟩
              refine ifP_intro (fun a => ?_) fun a => gAnd_intro (rowsB_rb acc) ?_
              · rw [ed, if_pos (ne_of_bne a)]; rfl
              · rw [rowV_rb, ed, if_neg (by rw [eq_of_bne a]; simp), stripss_encFs, show u + (i + 2) + j + 4 = u + (i + 2) + (j + 4) by omega]; rfl
        · -- one more
          have hc : n ≠ 0 := by rw [beq_eq_false_iff_ne] at c; omega
          rw [if_neg hc] at ed
          have w5 : IntKind.wrap .i64 (((u + (i + 2) + n : Nat) : Int) + 1) = ((u + (i + 2) + n + 1 : Nat) : Int) := by rw [wrap_in (by omega) (by omega)]; omega
          have w6 : IntKind.wrap .i64 (((u + (i + 2) + n : Nat) : Int) + 2) = ((u + (i + 2) + n + 2 : Nat) : Int) := by rw [wrap_in (by omega) (by omega)]; omega
          rw [w5, w6]
          refine ifP_intro (fun d => ?_) fun d => ifP_intro (fun e => ?_) fun e => ?_
          · have : restG M n (s.drop (u + (i + 2))) acc = 3 := by
              unfold restG
              rw [if_pos (by simp only [gt_iff_lt, decide_eq_true_eq] at d; omega)]
            rw [this, if_pos (by decide)] at ed
            rw [ed]; rfl
          · have : restG M n (s.drop (u + (i + 2))) acc = 6 := by
              unfold restG
              rw [if_neg (by simp only [gt_iff_lt, decide_eq_false_iff_not] at d; omega), if_pos (by simp only [gt_iff_lt, decide_eq_true_eq] at e; rw [List.length_drop]; omega)]
            rw [this, if_pos (by decide)] at ed
            rw [ed]; rfl
          · have hd : n ≤ M - acc.length := by simp only [gt_iff_lt, decide_eq_false_iff_not] at d; omega
            have he : u + (i + 2) + n ≤ s.length := by simp only [gt_iff_lt, decide_eq_false_iff_not] at e; omega
            have hlt : ((s.drop (u + (i + 2))).take n).length = n := by rw [List.length_take, List.length_drop]; omega
            have hrest : restG M n (s.drop (u + (i + 2))) acc = if crlf.isPrefixOf (s.drop (u + (i + 2) + n)) = true then 0 else if (s.drop (u + (i + 2) + n)).isPrefixOf crlf = true then 6 else 4 := by
              unfold restG
              rw [if_neg (by omega), if_neg (by rw [List.length_drop]; omega), List.drop_drop]
            have hcm : cutL s (some ((u + (i + 2) : Nat) : Int)) (some ((u + (i + 2) + n : Nat) : Int)) = (s.drop (u + (i + 2))).take n := by rw [cut_mid, show u + (i + 2) + n - (u + (i + 2)) = n by omega]
            rw [hcm]
            have lack : (s.drop (u + (i + 2) + n)).isPrefixOf crlf = true → ¬ crlf.isPrefixOf (s.drop (u + (i + 2) + n)) = true → AV.tup [AV.str [], .int .i64 0, AV.sl 2 [] none, .int .i64 6] = decV (decG M (f + 1) (s.drop u) acc u) := fun h1 h2 => by
              rw [if_neg h2, if_pos h1] at hrest
              rw [hrest, if_pos (by decide)] at ed
              rw [ed]; rfl
            have go : ∀ (s' : List UInt8) (n' : Nat), [AV.str s, AV.int .i64 ((u + (i + 2) + n : Nat) : Int)] = [AV.str s', AV.int .i64 (n' : Int)] → (crlf.isPrefixOf (s.drop (u + (i + 2) + n)) = false → ¬ (s.drop (u + (i + 2) + n)).isPrefixOf crlf = true) →
                ifP (!endsB s' n') (AV.tup [AV.str [], .int .i64 0, AV.sl 2 [] none, .int .i64 4] = decV (decG M (f + 1) (s.drop u) acc u))
                  (ToEnd cfg 86 (bodyOf Tryz.f86) (RetIs Tryz.prog Tryz.f86 (decV (decG M (f + 1) (s.drop u) acc u))) [.code [0, 0, 1, 1, 1, 1, 1], .block 0, .code [1, 1, 1, 1, 1, 1]] .normal
                    [(0, true, .str s), (1, true, .int .i64 M), (8, true, .sl 1 (rb acc ++ ((s.drop (u + (i + 2))).take n).map (fun (b : UInt8) => [AV.int IntKind.u8 ((UInt8.toNat b : Nat) : Int)])) (some 1)), (9, true, .int .i64 ((u + (i + 2) + n + 2 : Nat) : Int))] [.grow g 2 63, .grow ((rb acc).length + ((s.drop (u + (i + 2))).take n).length) 1 5]) := fun s' n' hq hne => by
              simp only [List.cons.injEq, AV.str.injEq, AV.int.injEq, true_and, and_true] at hq; obtain ⟨rfl, hq⟩ := hq
              have : n' = u + (i + 2) + n := by omega
              subst this
              refine ifP_intro (fun q => ?_) fun q => ?_
              · have hq : crlf.isPrefixOf (s.drop (u + (i + 2) + n)) = false := by rw [Bool.not_eq_true'] at q; exact q
                rw [if_neg (by rw [hq]; simp), if_neg (hne hq)] at hrest
                rw [hrest, if_pos (by decide)] at ed
                rw [ed]; rfl
              · have hq : crlf.isPrefixOf (s.drop (u + (i + 2) + n)) = true := by rw [Bool.not_eq_false'] at q; exact q
                rw [if_pos hq] at hrest
                rw [hrest, if_neg (by decide)] at ed
                have hpl := (List.isPrefixOf_iff_prefix.1 hq).length_le
                have hpl : 2 ≤ s.length - (u + (i + 2) + n) := by simpa [crlf] using hpl
                have hdr : u + (i + 2 + n + 2) = u + (i + 2) + n + 2 := by omega
                have hdr2 : u + (i + 2) + n + 2 = u + (i + 2) + n + 2 := rfl; rw [rb_map, ← rb_app, rb_len, ← List.length_append, ed]
                have := ih (u + (i + 2) + n + 2) (acc ++ (s.drop (u + (i + 2))).take n) g (by omega) (by omega) (by rw [List.length_append, hlt]; omega)
                rw [List.drop_drop, hdr]; exact this
            refine gAnd_intro (cutOb_mid (by omega) (by omega)) (gAnd_intro ?_ (ifP_intro (fun q => ?_) fun q => ifP_intro (fun z => ?_) fun z => ?_))
            · rw [rb_len, hlt, tag_ok rfl, decide_eq_true (by omega)]; rfl
            · have hq : u + (i + 2) + n = s.length := by rw [beq_iff_eq] at q; omega
              have hnil : s.drop (u + (i + 2) + n) = [] := List.drop_eq_nil_of_le (by omega)
              exact lack (by rw [hnil]; rfl) (by rw [hnil]; simp [crlf])
            · have hz : u + (i + 2) + n + 1 = s.length := by rw [beq_iff_eq] at z; omega
              have h1 : s.drop (u + (i + 2) + n) = [s.getD (u + (i + 2) + n) 0] := by
                rw [List.drop_eq_getElem_cons (by omega), List.drop_eq_nil_of_le (by omega)]
                simp [List.getD_eq_getElem?_getD, List.getElem?_eq_getElem (show u + (i + 2) + n < s.length by omega)]
              have e9 : List.getD s (Int.toNat ((u + (i + 2) + n : Nat) : Int)) 0 = s.getD (u + (i + 2) + n) 0 := by rw [Int.toNat_natCast]
              rw [e9]
              refine gAnd_intro (inR_nat (by omega)) (ifP_intro (fun y => ?_) fun y => ⟨s, _, by omega, by omega, rfl, go _ _ rfl fun _ => ?_⟩)
              · have hy := ueq 13 rfl y; rw [hy] at h1
                exact lack (by rw [h1]; rfl) (by rw [h1]; simp [crlf])
              · have hy := une 13 rfl y; rw [h1]; intro hc; simp [crlf] at hc; exact hy hc
            · refine ⟨s, _, by omega, by omega, rfl, go _ _ rfl fun hno hc => ?_⟩
              have hle : 2 ≤ (s.drop (u + (i + 2) + n)).length := by
                rw [beq_eq_false_iff_ne] at q z; rw [List.length_drop]; omega
              have h2 := List.isPrefixOf_iff_prefix.1 hc; have h3 := h2.length_le; have h4 : s.drop (u + (i + 2) + n) = crlf := h2.eq_of_length (Nat.le_antisymm h3 hle); rw [h4] at hno
              exact absurd hno (by decide)
theorem c86 : COk cfg 86 (fun vs h K => ∃ (s : List UInt8) (m : Int), s.length ≤ 100000 ∧ -9223372036854775808 ≤ m ∧ m ≤ 9223372036854775807 ∧ vs = [.str s, .int .i64 m] ∧
  K (.tup [.str (decA s m).body, .int .i64 (decA s m).used, .sl 2 (encFs (decA s m).tr) none, .int .i64 (decA s m).e]) h) := by
  refine cok_pure pf86 fun vs h K ht => ?_
  obtain ⟨s, m, hs, h0, h1, rfl, hk⟩ := ht
  have key : ∀ z : Int, z = ((clip m : Nat) : Int) → ToEnd cfg 86 (bodyOf Tryz.f86) (RetIs Tryz.prog Tryz.f86 (decV (decA s m))) [.code [0, 0, 1, 1, 1, 1, 1], .block 0, .code [1, 1, 1, 1, 1, 1]] .normal
      [(0, true, .str s), (1, true, .int .i64 z), (8, true, .sl 1 [] (some 1)), (9, true, .int .i64 0)] [.grow 0 2 63, .grow 0 1 5] := fun z hz => by
    subst hz
    exact loop86 hs (by unfold clip; omega) (s.length + 1) 0 [] 0 (Nat.zero_le _) (by omega) (by simp)
  refine ⟨_, hk, t86a tab86 (ifP_intro (fun a => key _ ?_) fun a => ifP_intro (fun b => key _ ?_) fun b => key _ ?_)⟩
  all_goals (simp only [gt_iff_lt, decide_eq_true_eq, decide_eq_false_iff_not] at *; unfold clip; omega)
end Go.Proofs.YtnncfdlpogjlkaaGreatDoor
end
