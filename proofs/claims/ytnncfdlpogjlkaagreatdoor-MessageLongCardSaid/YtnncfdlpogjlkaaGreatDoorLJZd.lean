/-
  Runs of functions of start lines, printed by a home tool; each is the kernel's word.
  Start lines: bytes, tokens, sorts, prefixes: the functions keep to their contracts.
  Start lines: sorts of bytes, prefixes, versions, what is put: the functions keep to their contracts.
  Start lines: the program's readers keep to their contracts.
  Start lines: the program's readers of a request's line and of a reply's keep to their contracts.
  Start lines: what is put, the program's and the document's.
  Start lines: the document's readers, and how it puts a reply's line.
  Start lines: the document's reader of a request's line.
-/
import Derived.Test.YtnncfdlpogjlkaaGreatDoorLCfg
import Derived.Test.YtnncfdlpogjlkaaGreatDoorLJZo
set_option linter.unusedVariables false
set_option linter.unusedSimpArgs false
set_option linter.unnecessarySimpa false
section
namespace Go.Proofs.YtnncfdlpogjlkaaGreatDoor.Ln
open Go.Ai Go.Ai.Ln Go
set_option maxRecDepth 100000
open Go.IntKind (wrap i64 u8)
open Go.Ai.AV (int str sl tup bool agg ptr)
open Go.Ai.Blk (mem grow)
open Go.Ai.Fm (code block loop)
open Go.Ai.XT (normal)
open List (length)
open Prod (fst snd)
open UInt8 (toNat)
open Tryz (prog f74 f75 f80 f81 f82 f83 f89 f90 f91 f95 f108 f114 f115 f116 f125 f126 f154)
theorem t116 {v : AV} {c : Int} (hT : TabOk cfg (ctab [])) (H : ifP (decide (c ≥ 48)) (bool (decide (c ≤ 57)) = v) (bool false = v)) : ToEnd cfg 116 (bodyOf f116) (RetIs prog f116 v) ([.code []]) .normal ([(0, true, .int .u8 c)]) ([]) := by
  exact unr_ok (pl := ⟨[], []⟩) hT 100000 _ _ _ _ (unr_use H (by kernel_rfl))
theorem t89 {v : AV} {c : Int} (hT : TabOk cfg (ctab [])) (H : ifP (decide (c ≥ 48)) (bool (decide (c ≤ 57)) = v) (bool false = v)) : ToEnd cfg 89 (bodyOf f89) (RetIs prog f89 v) ([.code []]) .normal ([(0, true, .int .u8 c)]) ([]) := by
  exact unr_ok (pl := ⟨[], []⟩) hT 100000 _ _ _ _ (unr_use H (by kernel_rfl))
theorem t125 {v : AV} {c : Int} (hT : TabOk cfg (ctab [])) (H : ifP (decide (c ≥ 65)) (ifP (decide (c ≤ 90)) (bool true = v) (ifP (decide (c ≥ 97)) (ifP (decide (c ≤ 122)) (bool true = v) (ifP (decide (c ≥ 48)) (bool (decide (c ≤ 57)) = v) (bool false = v))) (ifP (decide (c ≥ 48)) (bool (decide (c ≤ 57)) = v) (bool false = v)))) (ifP (decide (c ≥ 97)) (ifP (decide (c ≤ 122)) (bool true = v) (ifP (decide (c ≥ 48)) (bool (decide (c ≤ 57)) = v) (bool false = v))) (ifP (decide (c ≥ 48)) (bool (decide (c ≤ 57)) = v) (bool false = v)))) : ToEnd cfg 125 (bodyOf f125) (RetIs prog f125 v) ([.code []]) .normal ([(0, true, .int .u8 c)]) ([]) := by
  exact unr_ok (pl := ⟨[], []⟩) hT 100000 _ _ _ _ (unr_use H (by kernel_rfl))
theorem t114 {v : AV} {c : Int} (hT : TabOk cfg (ctab [(153, ixC)])) (H : ifP (decide (c ≥ 97)) (ifP (decide (c ≤ 122)) (bool true = v) (ifP (decide (c ≥ 65)) (ifP (decide (c ≤ 90)) (bool true = v) (ifP (decide (c ≥ 48)) (ifP (decide (c ≤ 57)) (bool true = v) (∃ (s1 : List UInt8) (c2 : UInt8), [str [33, 35, 36, 37, 38, 39, 42, 43, 45, 46, 94, 95, 96, 124, 126], int u8 c] = [str s1, int u8 (↑(toNat c2) : Int)] ∧ bool (decide (Lib.indexByte s1 c2 ≥ 0)) = v)) (∃ (s3 : List UInt8) (c4 : UInt8), [str [33, 35, 36, 37, 38, 39, 42, 43, 45, 46, 94, 95, 96, 124, 126], int u8 c] = [str s3, int u8 (↑(toNat c4) : Int)] ∧ bool (decide (Lib.indexByte s3 c4 ≥ 0)) = v))) (ifP (decide (c ≥ 48)) (ifP (decide (c ≤ 57)) (bool true = v) (∃ (s5 : List UInt8) (c6 : UInt8), [str [33, 35, 36, 37, 38, 39, 42, 43, 45, 46, 94, 95, 96, 124, 126], int u8 c] = [str s5, int u8 (↑(toNat c6) : Int)] ∧ bool (decide (Lib.indexByte s5 c6 ≥ 0)) = v)) (∃ (s7 : List UInt8) (c8 : UInt8), [str [33, 35, 36, 37, 38, 39, 42, 43, 45, 46, 94, 95, 96, 124, 126], int u8 c] = [str s7, int u8 (↑(toNat c8) : Int)] ∧ bool (decide (Lib.indexByte s7 c8 ≥ 0)) = v)))) (ifP (decide (c ≥ 65)) (ifP (decide (c ≤ 90)) (bool true = v) (ifP (decide (c ≥ 48)) (ifP (decide (c ≤ 57)) (bool true = v) (∃ (s9 : List UInt8) (c10 : UInt8), [str [33, 35, 36, 37, 38, 39, 42, 43, 45, 46, 94, 95, 96, 124, 126], int u8 c] = [str s9, int u8 (↑(toNat c10) : Int)] ∧ bool (decide (Lib.indexByte s9 c10 ≥ 0)) = v)) (∃ (s11 : List UInt8) (c12 : UInt8), [str [33, 35, 36, 37, 38, 39, 42, 43, 45, 46, 94, 95, 96, 124, 126], int u8 c] = [str s11, int u8 (↑(toNat c12) : Int)] ∧ bool (decide (Lib.indexByte s11 c12 ≥ 0)) = v))) (ifP (decide (c ≥ 48)) (ifP (decide (c ≤ 57)) (bool true = v) (∃ (s13 : List UInt8) (c14 : UInt8), [str [33, 35, 36, 37, 38, 39, 42, 43, 45, 46, 94, 95, 96, 124, 126], int u8 c] = [str s13, int u8 (↑(toNat c14) : Int)] ∧ bool (decide (Lib.indexByte s13 c14 ≥ 0)) = v)) (∃ (s15 : List UInt8) (c16 : UInt8), [str [33, 35, 36, 37, 38, 39, 42, 43, 45, 46, 94, 95, 96, 124, 126], int u8 c] = [str s15, int u8 (↑(toNat c16) : Int)] ∧ bool (decide (Lib.indexByte s15 c16 ≥ 0)) = v)))) : ToEnd cfg 114 (bodyOf f114) (RetIs prog f114 v) ([.code []]) .normal ([(0, true, .int .u8 c)]) ([]) := by
  exact unr_ok (pl := ⟨[], []⟩) hT 100000 _ _ _ _ (unr_use H (by kernel_rfl))
theorem t126a {v : AV} {c : Int} {s : List UInt8} (hT : TabOk cfg (ctab [])) (H : ToEnd cfg 126 (bodyOf f126) (RetIs prog f126 v) [code [0, 1, 0, 1], block 0, code [1, 1]] normal [(0, true, int u8 c), (1, true, str s), (5, true, int i64 0)] []) : ToEnd cfg 126 (bodyOf f126) (RetIs prog f126 v) ([.code []]) .normal ([(0, true, .int .u8 c), (1, true, .str s)]) ([]) := by
  exact unr_ok (pl := ⟨[[0, 1, 0, 1]], []⟩) hT 100000 _ _ _ _ (unr_use H (by kernel_rfl))
theorem t75a {v : AV} {s : List UInt8} (hT : TabOk cfg (ctab [(114, byteC wordB)])) (H : ToEnd cfg 75 (bodyOf f75) (RetIs prog f75 v) [code [0, 1, 0, 1], block 0, code [1, 1]] normal [(0, true, str s), (5, true, int i64 (↑(length s) : Int)), (6, true, int i64 0)] []) : ToEnd cfg 75 (bodyOf f75) (RetIs prog f75 v) ([.code []]) .normal ([(0, true, .str s)]) ([]) := by
  exact unr_ok (pl := ⟨[[0, 1, 0, 1]], []⟩) hT 100000 _ _ _ _ (unr_use H (by kernel_rfl))
theorem t81a {v : AV} {s : List UInt8} (hT : TabOk cfg (ctab [(125, byteC letterB), (126, inC)])) (H : ToEnd cfg 81 (bodyOf f81) (RetIs prog f81 v) [code [0, 1, 0, 1], block 0, code [1, 1]] normal [(0, true, str s), (3, true, int i64 0)] []) : ToEnd cfg 81 (bodyOf f81) (RetIs prog f81 v) ([.code []]) .normal ([(0, true, .str s)]) ([]) := by
  exact unr_ok (pl := ⟨[[0, 1, 0, 1]], []⟩) hT 100000 _ _ _ _ (unr_use H (by kernel_rfl))
theorem t74a {v : AV} {l s : List UInt8} (hT : TabOk cfg (ctab [])) (H : ToEnd cfg 74 (bodyOf f74) (RetIs prog f74 v) [code [0, 1, 0, 1], block 0, code [1, 1]] normal [(0, true, str l), (1, true, str s), (9, true, int i64 (↑(length s) : Int)), (10, true, int i64 0)] []) : ToEnd cfg 74 (bodyOf f74) (RetIs prog f74 v) ([.code []]) .normal ([(0, true, .str l), (1, true, .str s)]) ([]) := by
  exact unr_ok (pl := ⟨[[0, 1, 0, 1], [0, 1, 0, 1, 1, 0, 0, 1, 1, 0, 0, 1, 0, 1]], []⟩) hT 100000 _ _ _ _ (unr_use H (by kernel_rfl))
theorem t108 {v : AV} {s x : List UInt8} (hT : TabOk cfg (ctab [])) (H : ifP (decide ((↑(length s) : Int) ≥ (↑(length x) : Int))) (gAnd (cutOb (length s) none (some (↑(length x) : Int))) (bool (cutL s none (some (↑(length x) : Int)) == x) = v)) (bool false = v)) : ToEnd cfg 108 (bodyOf f108) (RetIs prog f108 v) ([.code []]) .normal ([(0, true, .str s), (1, true, .str x)]) ([]) := by
  exact unr_ok (pl := ⟨[], []⟩) hT 100000 _ _ _ _ (unr_use H (by kernel_rfl))
theorem t154 {v : AV} {s x : List UInt8} (hT : TabOk cfg (ctab [(108, Ai.Ln.prefC)])) (H : ∃ (s1 : List UInt8) (x2 : List UInt8), [str s, str x] = [str s1, str x2] ∧ ifP (!List.isPrefixOf x2 s1) (tup [str s, bool false] = v) (gAnd (cutOb (length s) (some (↑(length x) : Int)) none) (tup [str (cutL s (some (↑(length x) : Int)) none), bool true] = v))) : ToEnd cfg 154 (bodyOf f154) (RetIs prog f154 v) ([.code []]) .normal ([(0, true, .str s), (1, true, .str x)]) ([]) := by
  exact unr_ok (pl := ⟨[], []⟩) hT 100000 _ _ _ _ (unr_use H (by kernel_rfl))
theorem t115 {v : AV} {s x : List UInt8} (hT : TabOk cfg (ctab [(154, cutPC)])) (H : ∃ (s1 : List UInt8) (x2 : List UInt8), [str s, str x] = [str s1, str x2] ∧ tup [str (fst (cutP s1 x2)), bool (snd (cutP s1 x2))] = v) : ToEnd cfg 115 (bodyOf f115) (RetIs prog f115 v) ([.code []]) .normal ([(0, true, .str s), (1, true, .str x)]) ([]) := by
  exact unr_ok (pl := ⟨[], []⟩) hT 100000 _ _ _ _ (unr_use H (by kernel_rfl))
theorem t91 {v : AV} {mi : Int} {bad : Bool} {s : List UInt8} (hT : TabOk cfg (ctab [])) (H : ifP bad (tup [str [], int i64 4] = v) (ifP (decide (mi < 0)) (tup [str [], int i64 4] = v) (ifP (decide (mi > 1)) (tup [str [], int i64 4] = v) (ifP (decide ((↑(length s) : Int) > 2048)) (tup [str [], int i64 3] = v) (tup [str s, int i64 0] = v))))) : ToEnd cfg 91 (bodyOf f91) (RetIs prog f91 v) ([.code []]) .normal ([(0, true, .int .i64 mi), (1, true, .bool bad), (2, true, .str s)]) ([]) := by
  exact unr_ok (pl := ⟨[], []⟩) hT 100000 _ _ _ _ (unr_use H (by kernel_rfl))
theorem t80 {v : AV} {s : List UInt8} (hT : TabOk cfg (ctab [(89, byteC isDg)])) (H : ifP ((↑(length s) : Int) == 8) (gAnd (cutOb (length s) none (some 5)) (ifP (cutL s none (some 5) == [72, 84, 84, 80, 47]) (gAnd (inR 5 (length s)) (∃ (c1 : UInt8), [int u8 (↑(toNat (List.getD s 5 0)) : Int)] = [int u8 (↑(toNat c1) : Int)] ∧ ifP (isDg c1) (gAnd (inR 6 (length s)) (ifP ((↑(toNat (List.getD s 6 0)) : Int) == 46) (gAnd (inR 7 (length s)) (∃ (c2 : UInt8), [int u8 (↑(toNat (List.getD s 7 0)) : Int)] = [int u8 (↑(toNat c2) : Int)] ∧ bool (isDg c2) = v)) (bool false = v))) (bool false = v))) (bool false = v))) (bool false = v)) : ToEnd cfg 80 (bodyOf f80) (RetIs prog f80 v) ([.code []]) .normal ([(0, true, .str s)]) ([]) := by
  exact unr_ok (pl := ⟨[], []⟩) hT 100000 _ _ _ _ (unr_use H (by kernel_rfl))
theorem t83 {v : AV} {s : List UInt8} (hT : TabOk cfg (ctab [])) (H : gAnd (inR 7 (length s)) (ifP ((↑(toNat (List.getD s 7 0)) : Int) == 48) (int i64 0 = v) (int i64 1 = v))) : ToEnd cfg 83 (bodyOf f83) (RetIs prog f83 v) ([.code []]) .normal ([(0, true, .str s)]) ([]) := by
  exact unr_ok (pl := ⟨[], []⟩) hT 100000 _ _ _ _ (unr_use H (by kernel_rfl))
theorem t82a {v : AV} {s : List UInt8} (hT : TabOk cfg (ctab [])) (H : ToEnd cfg 82 (bodyOf f82) (RetIs prog f82 v) [code [0, 1, 0, 1], block 0, code [1, 1]] normal [(0, true, str s), (3, true, int i64 0)] []) : ToEnd cfg 82 (bodyOf f82) (RetIs prog f82 v) ([.code []]) .normal ([(0, true, .str s)]) ([]) := by
  exact unr_ok (pl := ⟨[[0, 1, 0, 1]], []⟩) hT 100000 _ _ _ _ (unr_use H (by kernel_rfl))
theorem t90a {v : AV} {s : List UInt8} (hT : TabOk cfg (ctab [])) (H : ToEnd cfg 90 (bodyOf f90) (RetIs prog f90 v) [code [0, 1, 0, 1], block 0, code [1, 1]] normal [(0, true, str s), (3, true, int i64 0)] []) : ToEnd cfg 90 (bodyOf f90) (RetIs prog f90 v) ([.code []]) .normal ([(0, true, .str s)]) ([]) := by
  exact unr_ok (pl := ⟨[[0, 1, 0, 1]], []⟩) hT 100000 _ _ _ _ (unr_use H (by kernel_rfl))
theorem t95 {v : AV} {n : Int} (hT : TabOk cfg (ctab [])) (H : ifP (n == 0) (str [72, 84, 84, 80, 47, 49, 46, 48] = v) (str [72, 84, 84, 80, 47, 49, 46, 49] = v)) : ToEnd cfg 95 (bodyOf f95) (RetIs prog f95 v) ([.code []]) .normal ([(0, true, .int .i64 n)]) ([]) := by
  exact unr_ok (pl := ⟨[], []⟩) hT 100000 _ _ _ _ (unr_use H (by kernel_rfl))
theorem t126b {v : AV}   {i0 : Int} {s1 : List UInt8} {i5 : Int} (hT : TabOk cfg (ctab [])) (H : ifP (decide (i5 < (↑(length s1) : Int))) (gAnd (inR i5 (length s1)) (ifP ((↑(toNat (List.getD s1 (Int.toNat i5) 0)) : Int) == i0) (bool true = v) (ToEnd cfg 126 (bodyOf f126) (RetIs prog f126 v) [code [0, 1, 0, 1], block 0, code [1, 1]] normal [(0, true, int u8 i0), (1, true, str s1), (5, true, int i64 (wrap i64 (i5 + 1)))] []))) (bool false = v)) : ToEnd cfg 126 (bodyOf f126) (RetIs prog f126 v) ([.code [0, 1, 0, 1], block 0, code [1, 1]]) .normal ([(0, true, int u8 i0), (1, true, str s1), (5, true, int i64 i5)]) ([]) := by
  exact ends_round (pl := ⟨[[0, 1, 0, 1]], []⟩) hT 100000 (by kernel_rfl) (unr_use H (by kernel_rfl))
theorem t75b {v : AV}  {s0 : List UInt8} {i5 : Int} {i6 : Int} (hT : TabOk cfg (ctab [(114, byteC wordB)])) (H : ifP (decide (i6 < i5)) (gAnd (inR i6 (length s0)) (∃ (c1 : UInt8), [int u8 (↑(toNat (List.getD s0 (Int.toNat i6) 0)) : Int)] = [int u8 (↑(toNat c1) : Int)] ∧ ifP (!wordB c1) (bool false = v) (ToEnd cfg 75 (bodyOf f75) (RetIs prog f75 v) [code [0, 1, 0, 1], block 0, code [1, 1]] normal [(0, true, str s0), (5, true, int i64 i5), (6, true, int i64 (wrap i64 (i6 + 1)))] []))) ((bool !s0 == []) = v)) : ToEnd cfg 75 (bodyOf f75) (RetIs prog f75 v) ([.code [0, 1, 0, 1], block 0, code [1, 1]]) .normal ([(0, true, str s0), (5, true, int i64 i5), (6, true, int i64 i6)]) ([]) := by
  exact ends_round (pl := ⟨[[0, 1, 0, 1]], []⟩) hT 100000 (by kernel_rfl) (unr_use H (by kernel_rfl))
theorem t81b {v : AV}  {s0 : List UInt8} {i3 : Int} (hT : TabOk cfg (ctab [(125, byteC letterB), (126, inC)])) (H : ifP (decide (i3 < (↑(length s0) : Int))) (gAnd (inR i3 (length s0)) (∃ (c1 : UInt8), [int u8 (↑(toNat (List.getD s0 (Int.toNat i3) 0)) : Int)] = [int u8 (↑(toNat c1) : Int)] ∧ ifP (!letterB c1) (gAnd (inR i3 (length s0)) (∃ (c2 : UInt8) (s3 : List UInt8), length s3 ≤ 100000 ∧ [int u8 (↑(toNat (List.getD s0 (Int.toNat i3) 0)) : Int), str [33, 35, 36, 37, 38, 39, 42, 43, 45, 46, 94, 95, 96, 124, 126]] = [int u8 (↑(toNat c2) : Int), str s3] ∧ ifP (!List.contains s3 c2) (bool false = v) (ToEnd cfg 81 (bodyOf f81) (RetIs prog f81 v) [code [0, 1, 0, 1], block 0, code [1, 1]] normal [(0, true, str s0), (3, true, int i64 (wrap i64 (i3 + 1)))] []))) (ToEnd cfg 81 (bodyOf f81) (RetIs prog f81 v) [code [0, 1, 0, 1], block 0, code [1, 1]] normal [(0, true, str s0), (3, true, int i64 (wrap i64 (i3 + 1)))] []))) (bool (decide ((↑(length s0) : Int) > 0)) = v)) : ToEnd cfg 81 (bodyOf f81) (RetIs prog f81 v) ([.code [0, 1, 0, 1], block 0, code [1, 1]]) .normal ([(0, true, str s0), (3, true, int i64 i3)]) ([]) := by
  exact ends_round (pl := ⟨[[0, 1, 0, 1]], []⟩) hT 100000 (by kernel_rfl) (unr_use H (by kernel_rfl))
theorem t82b {v : AV}  {s0 : List UInt8} {i3 : Int} (hT : TabOk cfg (ctab [])) (H : ifP (decide (i3 < (↑(length s0) : Int))) (gAnd (inR i3 (length s0)) (ifP (decide ((↑(toNat (List.getD s0 (Int.toNat i3) 0)) : Int) < 33)) (bool false = v) (gAnd (inR i3 (length s0)) (ifP (decide ((↑(toNat (List.getD s0 (Int.toNat i3) 0)) : Int) > 126)) (bool false = v) (ToEnd cfg 82 (bodyOf f82) (RetIs prog f82 v) [code [0, 1, 0, 1], block 0, code [1, 1]] normal [(0, true, str s0), (3, true, int i64 (wrap i64 (i3 + 1)))] []))))) (bool (decide ((↑(length s0) : Int) > 0)) = v)) : ToEnd cfg 82 (bodyOf f82) (RetIs prog f82 v) ([.code [0, 1, 0, 1], block 0, code [1, 1]]) .normal ([(0, true, str s0), (3, true, int i64 i3)]) ([]) := by
  exact ends_round (pl := ⟨[[0, 1, 0, 1]], []⟩) hT 100000 (by kernel_rfl) (unr_use H (by kernel_rfl))
theorem t90b {v : AV}  {s0 : List UInt8} {i3 : Int} (hT : TabOk cfg (ctab [])) (H : ifP (decide (i3 < (↑(length s0) : Int))) (gAnd (inR i3 (length s0)) (ifP ((↑(toNat (List.getD s0 (Int.toNat i3) 0)) : Int) != 9) (gAnd (inR i3 (length s0)) (ifP (decide ((↑(toNat (List.getD s0 (Int.toNat i3) 0)) : Int) < 32)) (bool false = v) (gAnd (inR i3 (length s0)) (ifP ((↑(toNat (List.getD s0 (Int.toNat i3) 0)) : Int) == 127) (bool false = v) (ToEnd cfg 90 (bodyOf f90) (RetIs prog f90 v) [code [0, 1, 0, 1], block 0, code [1, 1]] normal [(0, true, str s0), (3, true, int i64 (wrap i64 (i3 + 1)))] []))))) (gAnd (inR i3 (length s0)) (ifP ((↑(toNat (List.getD s0 (Int.toNat i3) 0)) : Int) == 127) (bool false = v) (ToEnd cfg 90 (bodyOf f90) (RetIs prog f90 v) [code [0, 1, 0, 1], block 0, code [1, 1]] normal [(0, true, str s0), (3, true, int i64 (wrap i64 (i3 + 1)))] []))))) (bool true = v)) : ToEnd cfg 90 (bodyOf f90) (RetIs prog f90 v) ([.code [0, 1, 0, 1], block 0, code [1, 1]]) .normal ([(0, true, str s0), (3, true, int i64 i3)]) ([]) := by
  exact ends_round (pl := ⟨[[0, 1, 0, 1]], []⟩) hT 100000 (by kernel_rfl) (unr_use H (by kernel_rfl))
theorem t74b {v : AV}  {s0 : List UInt8} {s1 : List UInt8} {i9 : Int} {i10 : Int} (hT : TabOk cfg (ctab [])) (H : ifP (decide (i10 < i9)) (ToEnd cfg 74 (bodyOf f74) (RetIs prog f74 v) [code [0, 1, 0, 1, 1, 0, 0, 1, 1, 0, 0, 1, 0, 1], block 2, code [1, 1, 1, 0, 0, 1, 1, 0, 0, 1, 0, 1], block 1, code [1, 1, 1, 0, 0, 1, 0, 1], loop [0, 1, 0, 1] 0, block 0, code [1, 1]] normal [(0, true, str s0), (1, true, str s1), (5, true, int i64 i10), (6, true, bool false), (7, true, int i64 0), (9, true, int i64 i9), (10, true, int i64 i10)] []) (bool true = v)) : ToEnd cfg 74 (bodyOf f74) (RetIs prog f74 v) ([.code [0, 1, 0, 1], block 0, code [1, 1]]) .normal ([(0, true, str s0), (1, true, str s1), (9, true, int i64 i9), (10, true, int i64 i10)]) ([]) := by
  exact ends_round (pl := ⟨[[0, 1, 0, 1], [0, 1, 0, 1, 1, 0, 0, 1, 1, 0, 0, 1, 0, 1]], []⟩) hT 100000 (by kernel_rfl) (unr_use H (by kernel_rfl))
theorem t74c {v : AV}  {s0 : List UInt8} {s1 : List UInt8} {i9 : Int} {i10 : Int} {i5 : Int} {b6 : Bool} {i7 : Int} (hT : TabOk cfg (ctab [])) (H : ifP (decide (i7 < (↑(length s0) : Int))) (ifP b6 (ToEnd cfg 74 (bodyOf f74) (RetIs prog f74 v) [code [0, 1, 0, 1, 1, 0, 0, 1, 1, 0, 0, 1, 0, 1], block 2, code [1, 1, 1, 0, 0, 1, 1, 0, 0, 1, 0, 1], block 1, code [1, 1, 1, 0, 0, 1, 0, 1], loop [0, 1, 0, 1] 0, block 0, code [1, 1]] normal [(0, true, str s0), (1, true, str s1), (5, true, int i64 i5), (6, true, bool true), (7, true, int i64 (wrap i64 (i7 + 2))), (9, true, int i64 i9), (10, true, int i64 i10)] []) (gAnd (inR i5 (length s1)) (gAnd (inR i7 (length s0)) (ifP (decide ((↑(toNat (List.getD s1 (Int.toNat i5) 0)) : Int) ≥ (↑(toNat (List.getD s0 (Int.toNat i7) 0)) : Int))) (gAnd (inR i5 (length s1)) (gAnd (inR (wrap i64 (i7 + 1)) (length s0)) (ToEnd cfg 74 (bodyOf f74) (RetIs prog f74 v) [code [0, 1, 0, 1, 1, 0, 0, 1, 1, 0, 0, 1, 0, 1], block 2, code [1, 1, 1, 0, 0, 1, 1, 0, 0, 1, 0, 1], block 1, code [1, 1, 1, 0, 0, 1, 0, 1], loop [0, 1, 0, 1] 0, block 0, code [1, 1]] normal [(0, true, str s0), (1, true, str s1), (5, true, int i64 i5), (6, true, bool (decide ((↑(toNat (List.getD s1 (Int.toNat i5) 0)) : Int) ≤ (↑(toNat (List.getD s0 (Int.toNat (wrap i64 (i7 + 1))) 0)) : Int)))), (7, true, int i64 (wrap i64 (i7 + 2))), (9, true, int i64 i9), (10, true, int i64 i10)] []))) (ToEnd cfg 74 (bodyOf f74) (RetIs prog f74 v) [code [0, 1, 0, 1, 1, 0, 0, 1, 1, 0, 0, 1, 0, 1], block 2, code [1, 1, 1, 0, 0, 1, 1, 0, 0, 1, 0, 1], block 1, code [1, 1, 1, 0, 0, 1, 0, 1], loop [0, 1, 0, 1] 0, block 0, code [1, 1]] normal [(0, true, str s0), (1, true, str s1), (5, true, int i64 i5), (6, true, bool false), (7, true, int i64 (wrap i64 (i7 + 2))), (9, true, int i64 i9), (10, true, int i64 i10)] []))))) (ifP (!b6) (bool false = v) (ToEnd cfg 74 (bodyOf f74) (RetIs prog f74 v) [code [0, 1, 0, 1], block 0, code [1, 1]] normal [(0, true, str s0), (1, true, str s1), (9, true, int i64 i9), (10, true, int i64 (wrap i64 (i10 + 1)))] []))) : ToEnd cfg 74 (bodyOf f74) (RetIs prog f74 v) ([.code [0, 1, 0, 1, 1, 0, 0, 1, 1, 0, 0, 1, 0, 1], block 2, code [1, 1, 1, 0, 0, 1, 1, 0, 0, 1, 0, 1], block 1, code [1, 1, 1, 0, 0, 1, 0, 1], loop [0, 1, 0, 1] 0, block 0, code [1, 1]]) .normal ([(0, true, str s0), (1, true, str s1), (5, true, int i64 i5), (6, true, bool b6), (7, true, int i64 i7), (9, true, int i64 i9), (10, true, int i64 i10)]) ([]) := by
  exact ends_round (pl := ⟨[[0, 1, 0, 1], [0, 1, 0, 1, 1, 0, 0, 1, 1, 0, 0, 1, 0, 1]], []⟩) hT 100000 (by kernel_rfl) (unr_use H (by kernel_rfl))
end Go.Proofs.YtnncfdlpogjlkaaGreatDoor.Ln
end
section
namespace Go.Proofs.YtnncfdlpogjlkaaGreatDoor.Ln
open Go.Ai Go.Ai.Ln Go
set_option maxRecDepth 100000
theorem pf116 : pureFn cfg 116 Tryz.f116 := (by refine ⟨?_, ?_, ?_, ?_, ?_, ?_⟩ <;> kernel_rfl)
theorem pf89 : pureFn cfg 89 Tryz.f89 := (by refine ⟨?_, ?_, ?_, ?_, ?_, ?_⟩ <;> kernel_rfl)
theorem pf125 : pureFn cfg 125 Tryz.f125 := (by refine ⟨?_, ?_, ?_, ?_, ?_, ?_⟩ <;> kernel_rfl)
theorem pf114 : pureFn cfg 114 Tryz.f114 := (by refine ⟨?_, ?_, ?_, ?_, ?_, ?_⟩ <;> kernel_rfl)
theorem pf126 : pureFn cfg 126 Tryz.f126 := (by refine ⟨?_, ?_, ?_, ?_, ?_, ?_⟩ <;> kernel_rfl)
theorem pf75 : pureFn cfg 75 Tryz.f75 := (by refine ⟨?_, ?_, ?_, ?_, ?_, ?_⟩ <;> kernel_rfl)
theorem pf81 : pureFn cfg 81 Tryz.f81 := (by refine ⟨?_, ?_, ?_, ?_, ?_, ?_⟩ <;> kernel_rfl)
theorem pf74 : pureFn cfg 74 Tryz.f74 := (by refine ⟨?_, ?_, ?_, ?_, ?_, ?_⟩ <;> kernel_rfl)
theorem pf82 : pureFn cfg 82 Tryz.f82 := (by refine ⟨?_, ?_, ?_, ?_, ?_, ?_⟩ <;> kernel_rfl)
theorem pf90 : pureFn cfg 90 Tryz.f90 := (by refine ⟨?_, ?_, ?_, ?_, ?_, ?_⟩ <;> kernel_rfl)
theorem pf108 : pureFn cfg 108 Tryz.f108 := (by refine ⟨?_, ?_, ?_, ?_, ?_, ?_⟩ <;> kernel_rfl)
theorem pf154 : pureFn cfg 154 Tryz.f154 := (by refine ⟨?_, ?_, ?_, ?_, ?_, ?_⟩ <;> kernel_rfl)
theorem pf115 : pureFn cfg 115 Tryz.f115 := (by refine ⟨?_, ?_, ?_, ?_, ?_, ?_⟩ <;> kernel_rfl)
theorem pf91 : pureFn cfg 91 Tryz.f91 := (by refine ⟨?_, ?_, ?_, ?_, ?_, ?_⟩ <;> kernel_rfl)
theorem pf80 : pureFn cfg 80 Tryz.f80 := (by refine ⟨?_, ?_, ?_, ?_, ?_, ?_⟩ <;> kernel_rfl)
theorem pf83 : pureFn cfg 83 Tryz.f83 := (by refine ⟨?_, ?_, ?_, ?_, ?_, ?_⟩ <;> kernel_rfl)
theorem pf95 : pureFn cfg 95 Tryz.f95 := (by refine ⟨?_, ?_, ?_, ?_, ?_, ?_⟩ <;> kernel_rfl)
theorem bool_av {a b : Bool} (h : a = true ↔ b = true) : AV.bool a = AV.bool b := by
  have : a = b := Bool.eq_iff_iff.2 h; rw [this]
theorem at_pre (pre : List UInt8) (c : UInt8) (r : List UInt8) : List.getD (pre ++ c :: r) (Int.toNat (pre.length : Int)) 0 = c := by simp
theorem wrap_n {n : Nat} (h : n ≤ big) : IntKind.wrap .i64 ((n : Int) + 1) = ((n + 1 : Nat) : Int) := by
  unfold big at h; rw [wrap_in] <;> omega
theorem c116 : COk cfg 116 (byteC isDg) := by
  refine cok_pure pf116 fun vs h K ht => ?_
  obtain ⟨c, rfl, hk⟩ := ht; refine ⟨_, hk, t116 (ctab_ok ctab_nil) ?_⟩
  repeat' refine ifP_intro (fun _ => ?_) fun _ => ?_
  all_goals (refine bool_av ?_; simp only [isDg, decide_eq_true_eq, decide_eq_false_iff_not, Bool.and_eq_true, Bool.or_eq_true, Bool.false_eq_true, eq_self_iff_true, true_iff, false_iff] at *; omega)
theorem c89 : COk cfg 89 (byteC isDg) := by
  refine cok_pure pf89 fun vs h K ht => ?_
  obtain ⟨c, rfl, hk⟩ := ht; refine ⟨_, hk, t89 (ctab_ok ctab_nil) ?_⟩
  repeat' refine ifP_intro (fun _ => ?_) fun _ => ?_
  all_goals (refine bool_av ?_; simp only [isDg, decide_eq_true_eq, decide_eq_false_iff_not, Bool.and_eq_true, Bool.or_eq_true, Bool.false_eq_true, eq_self_iff_true, true_iff, false_iff] at *; omega)
theorem c125 : COk cfg 125 (byteC letterB) := by
  refine cok_pure pf125 fun vs h K ht => ?_
  obtain ⟨c, rfl, hk⟩ := ht; refine ⟨_, hk, t125 (ctab_ok ctab_nil) ?_⟩
  repeat' refine ifP_intro (fun _ => ?_) fun _ => ?_
  all_goals (refine bool_av ?_; simp only [letterB, decide_eq_true_eq, decide_eq_false_iff_not, Bool.and_eq_true, Bool.or_eq_true, Bool.false_eq_true, eq_self_iff_true, true_iff, false_iff] at *; omega)
theorem ix_nonneg : ∀ (l : List UInt8) (c : UInt8), (Lib.indexByte l c ≥ 0) ↔ l.contains c = true
  | [], c => by simp [Lib.indexByte]
  | b :: l, c => by
    have ih := ix_nonneg l c; have hg := Lib.indexByte_ge l c; rw [Lib.indexByte]
    by_cases h : b = c
    · subst h; simp
    · have h' : ¬c = b := fun e => h e.symm
      have hb : (b == c) = false := by simpa using h
      have hb' : (c == b) = false := by simpa using h'
      rw [List.contains_cons, hb', Bool.false_or, ← ih, hb]
      by_cases h1 : Lib.indexByte l c = -1
      · simp [h1]
      · have h2 : (Lib.indexByte l c == -1) = false := by simpa using h1
        simp only [h2, Bool.false_eq_true, if_false]; omega
theorem c153 : COk cfg 153 ixC := by
  refine cok_prim (by kernel_rfl) (by kernel_rfl) (by kernel_rfl : cfg.prim 153 = some pByteIx) (by kernel_rfl) fun vs h K ht => ?_
  obtain ⟨s, c, rfl, hk⟩ := ht; have := c.toNat_lt; refine ⟨.int .i64 (Lib.indexByte s c), hk, ?_⟩
  have e : (c.toNat : Int).toNat.toUInt8 = c := by simp
  simp only [pByteIx, e]
  rw [decide_eq_true (by omega), decide_eq_true (by omega)]; rfl
theorem c114 : COk cfg 114 (byteC wordB) := by
  refine cok_pure pf114 fun vs h K ht => ?_
  obtain ⟨c, rfl, hk⟩ := ht; refine ⟨_, hk, t114 (ctab_ok (ctab_cons c153 ctab_nil)) ?_⟩; have hm := ix_nonneg marksB c; generalize hq : decide (Lib.indexByte marksB c ≥ 0) = q
  have hq' : q = true ↔ marksB.contains c = true := by rw [← hq, decide_eq_true_eq]; exact hm
  repeat' refine ifP_intro (fun _ => ?_) fun _ => ?_
  all_goals first
    | refine ⟨marksB, c, rfl, ?_⟩
      rw [hq]; refine bool_av ?_; rw [hq']; unfold wordB
      clear hq hq' hm
      generalize marksB.contains c = m
      cases m <;> simp only [decide_eq_true_eq, decide_eq_false_iff_not, Bool.and_eq_true, Bool.or_eq_true, Bool.false_eq_true, eq_self_iff_true, true_iff, false_iff, or_true, or_false] at * <;> omega
    | refine bool_av ?_
      simp only [wordB, decide_eq_true_eq, decide_eq_false_iff_not, Bool.and_eq_true, Bool.or_eq_true, Bool.false_eq_true, eq_self_iff_true, true_iff, false_iff] at *; omega
theorem loop126 (c : UInt8) : ∀ (r pre : List UInt8), (pre ++ r).length ≤ big →
    ToEnd cfg 126 (bodyOf Tryz.f126) (RetIs Tryz.prog Tryz.f126 (.bool (r.contains c))) [.code [0, 1, 0, 1], .block 0, .code [1, 1]] .normal [(0, true, .int .u8 c.toNat), (1, true, .str (pre ++ r)), (5, true, .int .i64 pre.length)] [] := by
  intro r
  induction r with
  | nil =>
    intro pre hl
    refine t126b (ctab_ok ctab_nil) (ifP_intro (fun a => ?_) fun _ => rfl)
    simp at a
  | cons x r ih =>
    intro pre hl
    have hlen : pre.length ≤ big := by simp at hl; omega
    refine t126b (ctab_ok ctab_nil) (ifP_intro (fun _ => gAnd_intro (inR_of (by omega) (by simp; omega)) ?_) fun a => ?_)
    · rw [at_pre]
      refine ifP_intro (fun b => ?_) fun b => ?_
      · have : x = c := by
          have hb : (x.toNat : Int) = c.toNat := by simpa using b
          exact UInt8.toNat_inj.1 (by omega)
        subst this; simp
      · have hne : (c == x) = false := by
          rw [beq_eq_false_iff_ne]
          rintro rfl
          simp at b
        rw [wrap_n hlen, List.contains_cons, hne, Bool.false_or]
        have := ih (pre ++ [x]) (by simpa using hl)
        simpa using this
    · simp at a; omega
theorem c126 : COk cfg 126 inC := by
  refine cok_pure pf126 fun vs h K ht => ?_
  obtain ⟨c, s, hl, rfl, hk⟩ := ht; exact ⟨_, hk, t126a (ctab_ok ctab_nil) (loop126 c s [] hl)⟩
theorem loop75 : ∀ (r pre : List UInt8), (pre ++ r).length ≤ big →
    ToEnd cfg 75 (bodyOf Tryz.f75) (RetIs Tryz.prog Tryz.f75 (.bool (r.all wordB && !(pre ++ r).isEmpty))) [.code [0, 1, 0, 1], .block 0, .code [1, 1]] .normal [(0, true, .str (pre ++ r)), (5, true, .int .i64 (pre ++ r).length), (6, true, .int .i64 pre.length)] [] := by
  have hT : TabOk cfg (ctab [(114, byteC wordB)]) := ctab_ok (ctab_cons c114 ctab_nil); intro r
  induction r with
  | nil =>
    intro pre hl
    refine t75b hT (ifP_intro (fun a => ?_) fun _ => ?_)
    · simp at a
    · refine bool_av ?_
      cases pre <;> simp
  | cons x r ih =>
    intro pre hl
    have hlen : pre.length ≤ big := by simp at hl; omega
    refine t75b hT (ifP_intro (fun _ => gAnd_intro (inR_of (by omega) (by simp; omega)) ⟨x, by rw [at_pre], ifP_intro (fun b => ?_) fun b => ?_⟩) fun a => ?_)
    · simp at b; simp [b]
    · simp at b; rw [wrap_n hlen]
      have := ih (pre ++ [x]) (by simpa using hl)
      simpa [b] using this
    · simp at a; omega
theorem c75 : COk cfg 75 (strC tokenB) := by
  refine cok_pure pf75 fun vs h K ht => ?_
  obtain ⟨s, hl, rfl, hk⟩ := ht; exact ⟨_, hk, t75a (ctab_ok (ctab_cons c114 ctab_nil)) (loop75 s [] hl)⟩
theorem word_letter (c : UInt8) : wordB c = (letterB c || marksB.contains c) := by
  unfold wordB letterB
  cases decide (97 ≤ c.toNat) && decide (c.toNat ≤ 122) <;> cases decide (65 ≤ c.toNat) && decide (c.toNat ≤ 90) <;> simp
theorem loop81 : ∀ (r pre : List UInt8), (pre ++ r).length ≤ big →
    ToEnd cfg 81 (bodyOf Tryz.f81) (RetIs Tryz.prog Tryz.f81 (.bool (r.all wordB && !(pre ++ r).isEmpty))) [.code [0, 1, 0, 1], .block 0, .code [1, 1]] .normal [(0, true, .str (pre ++ r)), (3, true, .int .i64 pre.length)] [] := by
  have hT : TabOk cfg (ctab [(125, byteC letterB), (126, inC)]) := ctab_ok (ctab_cons c125 (ctab_cons c126 ctab_nil)); intro r
  induction r with
  | nil =>
    intro pre hl
    refine t81b hT (ifP_intro (fun a => ?_) fun _ => ?_)
    · simp at a
    · refine bool_av ?_
      cases pre <;> simp
  | cons x r ih =>
    intro pre hl
    have hlen : pre.length ≤ big := by simp at hl; omega
    have hin : inR (pre.length : Int) (pre ++ x :: r).length = true := inR_of (by omega) (by simp; omega)
    have hnext := ih (pre ++ [x]) (by simpa using hl)
    refine t81b hT (ifP_intro (fun _ => gAnd_intro hin ⟨x, by rw [at_pre], ifP_intro (fun b => gAnd_intro hin ⟨x, marksB, by decide, by rw [at_pre]; rfl, ifP_intro (fun d => ?_) fun d => ?_⟩) fun b => ?_⟩) fun a => ?_)
    · have b' : letterB x = false := by simpa using b
      have d' : marksB.contains x = false := by simpa using d
      have : wordB x = false := by rw [word_letter, b', d']; rfl
      simp [this]
    · have d' : marksB.contains x = true := by simpa using d
      have hw : wordB x = true := by rw [word_letter, d', Bool.or_true]
      rw [wrap_n hlen]; simpa [hw] using hnext
    · have b' : letterB x = true := by simpa using b
      have hw : wordB x = true := by rw [word_letter, b', Bool.true_or]
      rw [wrap_n hlen]; simpa [hw] using hnext
    · simp at a; omega
theorem c81 : COk cfg 81 (strC tokenB) := by
  refine cok_pure pf81 fun vs h K ht => ?_
  obtain ⟨s, hl, rfl, hk⟩ := ht; exact ⟨_, hk, t81a (ctab_ok (ctab_cons c125 (ctab_cons c126 ctab_nil))) (loop81 s [] hl)⟩
theorem loop82 : ∀ (r pre : List UInt8), (pre ++ r).length ≤ big →
    ToEnd cfg 82 (bodyOf Tryz.f82) (RetIs Tryz.prog Tryz.f82 (.bool (r.all targetB && !(pre ++ r).isEmpty))) [.code [0, 1, 0, 1], .block 0, .code [1, 1]] .normal [(0, true, .str (pre ++ r)), (3, true, .int .i64 pre.length)] [] := by
  have hT : TabOk cfg (ctab []) := ctab_ok ctab_nil; intro r
  induction r with
  | nil =>
    intro pre hl
    refine t82b hT (ifP_intro (fun a => ?_) fun _ => ?_)
    · simp at a
    · refine bool_av ?_
      cases pre <;> simp
  | cons x r ih =>
    intro pre hl
    have hlen : pre.length ≤ big := by simp at hl; omega
    have hin : inR (pre.length : Int) (pre ++ x :: r).length = true := inR_of (by omega) (by simp; omega)
    have hnext := ih (pre ++ [x]) (by simpa using hl)
    refine t82b hT (ifP_intro (fun _ => gAnd_intro hin ?_) fun a => ?_)
    · rw [at_pre]
      refine ifP_intro (fun b => ?_) fun b => gAnd_intro hin (ifP_intro (fun d => ?_) fun d => ?_)
      · have : targetB x = false := by
          simp only [decide_eq_true_eq] at b; simp only [targetB, Bool.and_eq_false_iff, decide_eq_false_iff_not]; omega
        simp [this]
      · have : targetB x = false := by
          simp only [decide_eq_true_eq] at d; simp only [targetB, Bool.and_eq_false_iff, decide_eq_false_iff_not]; omega
        simp [this]
      · have : targetB x = true := by
          simp only [decide_eq_false_iff_not] at b d; simp only [targetB, Bool.and_eq_true, decide_eq_true_eq]; omega
        rw [wrap_n hlen]; simpa [this] using hnext
    · simp at a; omega
theorem c82 : COk cfg 82 (strC fun s => s.all targetB && !s.isEmpty) := by
  refine cok_pure pf82 fun vs h K ht => ?_
  obtain ⟨s, hl, rfl, hk⟩ := ht; exact ⟨_, hk, t82a (ctab_ok ctab_nil) (loop82 s [] hl)⟩
theorem loop90 : ∀ (r pre : List UInt8), (pre ++ r).length ≤ big →
    ToEnd cfg 90 (bodyOf Tryz.f90) (RetIs Tryz.prog Tryz.f90 (.bool (r.all reasonB))) [.code [0, 1, 0, 1], .block 0, .code [1, 1]] .normal [(0, true, .str (pre ++ r)), (3, true, .int .i64 pre.length)] [] := by
  have hT : TabOk cfg (ctab []) := ctab_ok ctab_nil; intro r
  induction r with
  | nil =>
    intro pre hl
    refine t90b hT (ifP_intro (fun a => ?_) fun _ => rfl)
    simp at a
  | cons x r ih =>
    intro pre hl
    have hlen : pre.length ≤ big := by simp at hl; omega
    have hin : inR (pre.length : Int) (pre ++ x :: r).length = true := inR_of (by omega) (by simp; omega)
    have hnext := ih (pre ++ [x]) (by simpa using hl)
    have hlt := x.toNat_lt
    have h9 : (x == 9) = decide (x.toNat = 9) := by
      rw [Bool.eq_iff_iff, beq_iff_eq, decide_eq_true_eq, ← UInt8.toNat_inj]; rfl
    have step : reasonB x = true → ToEnd cfg 90 (bodyOf Tryz.f90) (RetIs Tryz.prog Tryz.f90 (.bool ((x :: r).all reasonB))) [.code [0, 1, 0, 1], .block 0, .code [1, 1]] .normal [(0, true, .str (pre ++ x :: r)), (3, true, .int .i64 (IntKind.wrap .i64 ((pre.length : Int) + 1)))] [] := fun hb => by
      rw [wrap_n hlen]; simpa [hb] using hnext
    have no : reasonB x = false → AV.bool false = AV.bool ((x :: r).all reasonB) := fun hb => by simp [hb]
    refine t90b hT (ifP_intro (fun _ => gAnd_intro hin ?_) fun a => ?_)
    · rw [at_pre]
      refine ifP_intro (fun b => gAnd_intro hin (ifP_intro (fun d => no ?_) fun d => gAnd_intro hin (ifP_intro (fun e => no ?_) fun e => step ?_))) fun b => gAnd_intro hin (ifP_intro (fun e => no ?_) fun e => step ?_)
      all_goals
        simp only [reasonB, h9, bne_iff_ne, ne_eq, decide_eq_true_eq, decide_eq_false_iff_not, beq_iff_eq, beq_eq_false_iff_ne, bne_eq_false_iff_eq, Bool.or_eq_false_iff, Bool.or_eq_true, Bool.and_eq_false_iff, Bool.and_eq_true] at *; omega
    · simp at a; omega
theorem c90 : COk cfg 90 (strC fun s => s.all reasonB) := by
  refine cok_pure pf90 fun vs h K ht => ?_
  obtain ⟨s, hl, rfl, hk⟩ := ht; exact ⟨_, hk, t90a (ctab_ok ctab_nil) (loop90 s [] hl)⟩
end Go.Proofs.YtnncfdlpogjlkaaGreatDoor.Ln
end
section
namespace Go.Proofs.YtnncfdlpogjlkaaGreatDoor.Ln
open Go.Ai Go.Ai.Ln Go
set_option maxRecDepth 100000
theorem in24 {l s : List UInt8} {c : UInt8} {v : AV} {i : Nat} (hi : i < s.length) (hs : s.length ≤ big) (hc : List.getD s i 0 = c) (hl : l.length ≤ 6) {res : Bool} (hno : res = false → AV.bool false = v)
    (hyes : res = true → ToEnd cfg 74 (bodyOf Tryz.f74) (RetIs Tryz.prog Tryz.f74 v) [.code [0, 1, 0, 1], .block 0, .code [1, 1]] .normal [(0, true, .str l), (1, true, .str s), (9, true, .int .i64 s.length), (10, true, .int .i64 ((i + 1 : Nat) : Int))] []) :
    ∀ (n : Nat) (lr lp : List UInt8) (b : Bool), lr.length = 2 * n → l = lp ++ lr → (b || inL lr c) = res →
    ToEnd cfg 74 (bodyOf Tryz.f74) (RetIs Tryz.prog Tryz.f74 v) [.code [0, 1, 0, 1, 1, 0, 0, 1, 1, 0, 0, 1, 0, 1], .block 2, .code [1, 1, 1, 0, 0, 1, 1, 0, 0, 1, 0, 1], .block 1, .code [1, 1, 1, 0, 0, 1, 0, 1], .loop [0, 1, 0, 1] 0, .block 0, .code [1, 1]] .normal
      [(0, true, .str l), (1, true, .str s), (5, true, .int .i64 i), (6, true, .bool b), (7, true, .int .i64 lp.length), (9, true, .int .i64 s.length), (10, true, .int .i64 i)] [] := by
  have hT : TabOk cfg (ctab []) := ctab_ok ctab_nil; intro n
  induction n with
  | zero =>
    intro lr lp b hn hl' hb
    obtain rfl : lr = [] := List.eq_nil_of_length_eq_zero (by omega)
    rw [List.append_nil] at hl'; subst hl'; simp only [inL, Bool.or_false] at hb; subst hb
    refine t74c hT (ifP_intro (fun a => ?_) fun _ => ifP_intro (fun a => hno (by simpa using a)) fun a => ?_)
    · simp at a
    · rw [wrap_n (by omega)]
      exact hyes (by simpa using a)
  | succ n ih =>
    intro lr lp b hn hl' hb
    match lr, hn with
    | x :: y :: lr, hn =>
      have hlen : lp.length + 2 + lr.length = l.length := by rw [hl']; simp; omega
      have hw2 : IntKind.wrap .i64 ((lp.length : Int) + 2) = (((lp ++ [x, y]).length : Nat) : Int) := by
        rw [wrap_in (by omega) (by omega)]; simp
      have hw1 : IntKind.wrap .i64 ((lp.length : Int) + 1) = ((lp.length + 1 : Nat) : Int) := wrap_n (by unfold big; omega)
      have hx : List.getD l (Int.toNat (lp.length : Int)) 0 = x := by rw [hl']; exact at_pre _ _ _
      have hy : List.getD l (Int.toNat ((lp.length + 1 : Nat) : Int)) 0 = y := by
        have := at_pre (lp ++ [x]) y lr; rw [hl']; simpa using this
      have hcc : List.getD s (Int.toNat (i : Int)) 0 = c := by simpa using hc
      have hn' : lr.length = 2 * n := by simp at hn; omega
      have hl2 : l = (lp ++ [x, y]) ++ lr := by rw [hl']; simp
      have hin : inR (i : Int) s.length = true := inR_of (by omega) (by omega)
      refine t74c hT (ifP_intro (fun _ => ?_) fun a => ?_)
      · rw [hw2]
        refine ifP_intro (fun a => ?_) fun a => ?_
        · subst a
          exact ih lr (lp ++ [x, y]) true hn' hl2 (by simpa using hb)
        · subst a; rw [hw1, hx, hy, hcc]; simp only [inL, Bool.false_or] at hb
          refine gAnd_intro hin (gAnd_intro (inR_of (by omega) (by omega)) (ifP_intro (fun d => gAnd_intro hin (gAnd_intro (inR_of (by omega) (by omega)) ?_)) fun d => ?_))
          · refine ih lr (lp ++ [x, y]) _ hn' hl2 ?_; rw [← hb]; simp only [decide_eq_true_eq] at d
            rw [decide_eq_true (p := x.toNat ≤ c.toNat) (by omega), Bool.true_and]
            congr 1
            rw [Bool.eq_iff_iff, decide_eq_true_eq, decide_eq_true_eq]; omega
          · refine ih lr (lp ++ [x, y]) _ hn' hl2 ?_; rw [← hb]; simp only [decide_eq_false_iff_not] at d
            rw [decide_eq_false (p := x.toNat ≤ c.toNat) (by omega), Bool.false_and]
      · simp only [decide_eq_false_iff_not] at a; omega
theorem loop74 {l : List UInt8} (hl : l.length ≤ 6) (he : l.length % 2 = 0) : ∀ (r pre : List UInt8), (pre ++ r).length ≤ big →
    ToEnd cfg 74 (bodyOf Tryz.f74) (RetIs Tryz.prog Tryz.f74 (.bool (r.all (inL l)))) [.code [0, 1, 0, 1], .block 0, .code [1, 1]] .normal [(0, true, .str l), (1, true, .str (pre ++ r)), (9, true, .int .i64 (pre ++ r).length), (10, true, .int .i64 pre.length)] [] := by
  have hT : TabOk cfg (ctab []) := ctab_ok ctab_nil; intro r
  induction r with
  | nil =>
    intro pre hp
    refine t74b hT (ifP_intro (fun a => ?_) fun _ => rfl)
    simp at a
  | cons x r ih =>
    intro pre hp
    have hlen : pre.length < (pre ++ x :: r).length := by simp
    refine t74b hT (ifP_intro (fun _ => ?_) fun a => ?_)
    · refine in24 (c := x) (i := pre.length) (res := inL l x) hlen hp (by simp) hl (fun h => by simp [h]) (fun h => ?_) (l.length / 2) l [] false (by omega) rfl (Bool.false_or _)
      have := ih (pre ++ [x]) (by simpa using hp)
      simpa [h] using this
    · simp only [decide_eq_false_iff_not] at a; omega
theorem c74 : COk cfg 74 holdsC := by
  refine cok_pure pf74 fun vs h K ht => ?_
  obtain ⟨l, s, h1, h2, h3, rfl, hk⟩ := ht; exact ⟨_, hk, t74a (ctab_ok ctab_nil) (loop74 h1 h2 s [] h3)⟩
theorem in_target (c : UInt8) : inL [33, 126] c = targetB c := by simp [inL, targetB]
theorem in_digit (c : UInt8) : inL [48, 57] c = isDg c := by simp [inL, isDg]
theorem in_reason (c : UInt8) : inL [9, 9, 32, 126, 128, 255] c = reasonB c := by
  have hlt := c.toNat_lt
  have h9 : (c == 9) = decide (c.toNat = 9) := by
    rw [Bool.eq_iff_iff, beq_iff_eq, decide_eq_true_eq, ← UInt8.toNat_inj]; rfl
  unfold reasonB; rw [h9, Bool.eq_iff_iff]; simp [inL]; omega
theorem pref_take : ∀ (x s : List UInt8), x.isPrefixOf s = (decide (x.length ≤ s.length) && (s.take x.length == x))
  | [], s => by simp
  | a :: x, [] => by simp
  | a :: x, b :: s => by
    have := pref_take x s; simp only [List.isPrefixOf_cons_cons, this, List.length_cons, List.take_succ_cons, List.cons_beq_cons]
    rw [show (decide (x.length + 1 ≤ s.length + 1)) = decide (x.length ≤ s.length) from by simp, show (a == b) = (b == a) from by rw [Bool.eq_iff_iff]; simp; exact eq_comm]
    cases (b == a) <;> cases decide (x.length ≤ s.length) <;> simp
theorem c108 : COk cfg 108 Ai.Ln.prefC := by
  refine cok_pure pf108 fun vs h K ht => ?_
  obtain ⟨s, x, rfl, hk⟩ := ht
  refine ⟨_, hk, t108 (ctab_ok ctab_nil) (ifP_intro (fun a => gAnd_intro ?_ ?_) fun a => ?_)⟩
  · simp [cutOb] at a ⊢; omega
  · simp at a
    rw [pref_take, decide_eq_true (by omega), Bool.true_and]
    simp [cutL]
  · simp at a
    rw [pref_take, decide_eq_false (by omega), Bool.false_and]
theorem pref_le {x s : List UInt8} (h : x.isPrefixOf s = true) : x.length ≤ s.length := by
  rw [pref_take, Bool.and_eq_true, decide_eq_true_eq] at h; exact h.1
theorem c154 : COk cfg 154 cutPC := by
  refine cok_pure pf154 fun vs h K ht => ?_
  obtain ⟨s, x, rfl, hk⟩ := ht
  refine ⟨_, hk, t154 (ctab_ok (ctab_cons c108 ctab_nil)) ⟨s, x, rfl, ifP_intro (fun a => ?_) fun a => ?_⟩⟩
  · have a' : x.isPrefixOf s = false := by simpa using a
    simp only [cutP, a', cond_false]
  · have a' : x.isPrefixOf s = true := by simpa using a
    refine gAnd_intro (by have := pref_le a'; simp [cutOb]; omega) ?_
    simp only [cutP, a', cond_true, cutL, Int.toNat_natCast]
theorem c115 : COk cfg 115 cutPC := by
  refine cok_pure pf115 fun vs h K ht => ?_
  obtain ⟨s, x, rfl, hk⟩ := ht; exact ⟨_, hk, t115 (ctab_ok (ctab_cons c154 ctab_nil)) ⟨s, x, rfl, rfl⟩⟩
theorem c91 : COk cfg 91 doneC := by
  refine cok_pure pf91 fun vs h K ht => ?_
  obtain ⟨mi, bad, s, hs, rfl, hk⟩ := ht; refine ⟨_, hk, t91 (ctab_ok ctab_nil) ?_⟩; unfold doneB
  refine ifP_intro (fun a => ?_) fun a => ifP_intro (fun b => ?_) fun b => ifP_intro (fun c => ?_) fun c => ifP_intro (fun d => ?_) fun d => ?_
  · rw [if_pos (by simp [a])]
  · rw [if_pos (by simp at b; simp [b])]
  · rw [if_pos (by simp at c; simp [c])]
  · simp at b c d
    rw [if_neg (by simp [a]; omega), if_pos (by omega)]
  · simp at b c d
    rw [if_neg (by simp [a]; omega), if_neg (by omega)]
theorem c95 : COk cfg 95 versC := by
  refine cok_pure pf95 fun vs h K ht => ?_
  obtain ⟨n, rfl, hk⟩ := ht; unfold verM at hk
  refine ⟨_, hk, t95 (ctab_ok ctab_nil) (ifP_intro (fun a => ?_) fun a => ?_)⟩
  · have : n = 0 := by simpa using a
    rw [if_pos this]; rfl
  · have : ¬n = 0 := by simpa using a
    rw [if_neg this]; rfl
theorem c83 : COk cfg 83 minorC := by
  refine cok_pure pf83 fun vs h K ht => ?_
  obtain ⟨s, hs, rfl, hk⟩ := ht
  refine ⟨_, hk, t83 (ctab_ok ctab_nil) (gAnd_intro (inR_of (by omega) (by omega)) (ifP_intro (fun a => ?_) fun a => ?_))⟩
  · rw [if_pos (UInt8.toNat_inj.1 (by have : ((s.getD 7 0).toNat : Int) = 48 := by simpa using a
                                      show (s.getD 7 0).toNat = 48; omega))]
  · rw [if_neg fun e => by rw [e] at a; simp at a]
def isVer (s : List UInt8) : Bool := (verOf s).isSome
theorem ver_eight (a b c d e x f y : UInt8) : isVer [a, b, c, d, e, x, f, y] = (([a, b, c, d, e] == [72, 84, 84, 80, 47]) && isDg x && (f == 46) && isDg y) := by
  unfold isVer
  cases h : ([a, b, c, d, e] == [72, 84, 84, 80, 47]) with
  | true =>
    have h' : [a, b, c, d, e] = [72, 84, 84, 80, 47] := by simpa using h
    simp only [List.cons.injEq, and_true] at h'; obtain ⟨rfl, rfl, rfl, rfl, rfl⟩ := h'
    by_cases hf : f = 46
    · subst hf
      cases hx : isDg x <;> cases hy : isDg y <;> simp [verOf, hx, hy]
    · have : (f == 46) = false := by simpa using hf
      rw [this]
      have hn : verOf [72, 84, 84, 80, 47, x, f, y] = none := by
        cases hv : verOf [72, 84, 84, 80, 47, x, f, y] with
        | none => rfl
        | some p =>
          have := (verOf_some (a := p.1) (b := p.2) hv).1; simp only [List.cons.injEq] at this; exact absurd this.2.2.2.2.2.2.1 hf
      rw [hn]; simp
  | false =>
    have hn : verOf [a, b, c, d, e, x, f, y] = none := by
      cases hv : verOf [a, b, c, d, e, x, f, y] with
      | none => rfl
      | some p =>
        have := (verOf_some (a := p.1) (b := p.2) hv).1; simp only [List.cons.injEq] at this; obtain ⟨rfl, rfl, rfl, rfl, rfl, _⟩ := this; simp at h
    rw [hn]; rfl
theorem ver_not8 {s : List UInt8} (h : s.length ≠ 8) : verOf s = none := by
  cases hv : verOf s with
  | none => rfl
  | some p =>
    have := (verOf_some (a := p.1) (b := p.2) hv).1; rw [this] at h; exact absurd rfl h
theorem eight {s : List UInt8} (h : s.length = 8) : ∃ a b c d e x f y, s = [a, b, c, d, e, x, f, y] := by
  match s, h with
  | [a, b, c, d, e, x, f, y], _ => exact ⟨_, _, _, _, _, _, _, _, rfl⟩
theorem c80 : COk cfg 80 (strC isVer) := by
  refine cok_pure pf80 fun vs h K ht => ?_
  obtain ⟨s, hs, rfl, hk⟩ := ht
  refine ⟨_, hk, t80 (ctab_ok (ctab_cons c89 ctab_nil)) (ifP_intro (fun ha => ?_) fun ha => ?_)⟩
  · have a' : s.length = 8 := by
      have : (s.length : Int) = 8 := by simpa using ha
      omega
    obtain ⟨a, b, c, d, e, x, f, y, rfl⟩ := eight a'; rw [ver_eight]
    refine gAnd_intro (by simp [cutOb]) (ifP_intro (fun k => gAnd_intro (inR_of (by omega) (by simp)) ⟨x, rfl, ifP_intro (fun m => gAnd_intro (inR_of (by omega) (by simp)) (ifP_intro (fun n => gAnd_intro (inR_of (by omega) (by simp)) ⟨y, rfl, ?_⟩) fun n => ?_)) fun m => ?_⟩) fun k => ?_)
    · have k' : ([a, b, c, d, e] == [72, 84, 84, 80, 47]) = true := k
      have n' : (f == 46) = true := by
        rw [beq_iff_eq, ← UInt8.toNat_inj]
        have : (f.toNat : Int) = 46 := by simpa using n
        show f.toNat = 46; omega
      rw [k', m, n']; simp
    · have n' : (f == 46) = false := by
        rw [beq_eq_false_iff_ne]
        rintro rfl
        simp at n
      rw [n']; simp
    · rw [m]; simp
    · have k' : ([a, b, c, d, e] == [72, 84, 84, 80, 47]) = false := k; rw [k']; rfl
  · have a' : s.length ≠ 8 := by
      intro e; rw [e] at ha; simp at ha
    unfold isVer; rw [ver_not8 a']; rfl
theorem idx_blank : ∀ (s : List UInt8) (i : Nat), (idxB s [32] i = -1 ∧ cutB s = (s, [], false)) ∨ ∃ m r, s = m ++ 32 :: r ∧ idxB s [32] i = ((i + m.length : Nat) : Int) ∧ cutB s = (m, r, true)
  | [], i => .inl ⟨rfl, rfl⟩
  | c :: s, i => by
    rw [idxB]
    by_cases h : c = 32
    · subst h
      exact .inr ⟨[], s, rfl, by simp, by simp [cutB]⟩
    · have hp : List.isPrefixOf [32] (c :: s) = false := by
        simp only [List.isPrefixOf_cons_cons, List.isPrefixOf_nil_left, Bool.and_true]; rw [beq_eq_false_iff_ne]
        exact fun e => h e.symm
      rw [hp]
      rcases idx_blank s (i + 1) with ⟨h1, h2⟩ | ⟨m, r, h1, h2, h3⟩
      · exact .inl ⟨h1, by simp only [cutB, if_neg h, h2]⟩
      · refine .inr ⟨c :: m, r, by rw [h1]; rfl, ?_, by simp only [cutB, if_neg h, h3]⟩
        show idxB s [32] (i + 1) = _; rw [h2]; simp; omega
theorem cutS_blank (s : List UInt8) : cutS s [32] = cutB s := by
  unfold cutS
  rcases idx_blank s 0 with ⟨h1, h2⟩ | ⟨m, r, h1, h2, h3⟩
  · rw [h1, h2]; rfl
  · rw [h2, h3]
    rw [decide_eq_true (by omega)]
    simp [h1]
theorem c70 : COk cfg 70 cutC := by
  refine cok_prim (by kernel_rfl) (by kernel_rfl) (by kernel_rfl : cfg.prim 70 = some pCut) (by kernel_rfl) fun vs h K ht => ?_
  obtain ⟨s, hs, rfl, hk⟩ := ht; refine ⟨.tup [.str (cutB s).1, .str (cutB s).2.1, .bool (cutB s).2.2], hk, ?_⟩; simp only [pCut, cutS_blank]
  have : Nat.blt s.length 4294967281 = true := Nat.ble_eq_true_of_le (by unfold big at hs; omega)
  rw [this]
theorem c92 : COk cfg 92 itoaC := by
  refine cok_prim (by kernel_rfl) (by kernel_rfl) (by kernel_rfl : cfg.prim 92 = some pItoa) (by kernel_rfl) fun vs h K ht => ?_
  obtain ⟨n, h1, h2, rfl, hk⟩ := ht; refine ⟨.str (itoaS n), hk, ?_⟩; simp only [pItoa]; rw [decide_eq_true h1, decide_eq_true h2]; rfl
theorem c88 : COk cfg 88 atoiC := by
  refine cok_prim (by kernel_rfl) (by kernel_rfl) (by kernel_rfl : cfg.prim 88 = some pAtoi) (by kernel_rfl) fun vs h K ht => ?_
  obtain ⟨s, hs, rfl, hk⟩ := ht; refine ⟨.tup [.int .i64 (atoiV s), .top], hk, ?_⟩; simp only [pAtoi]
  have : Nat.blt s.length 4294967281 = true := Nat.ble_eq_true_of_le (by unfold big at hs; omega)
  rw [this]
end Go.Proofs.YtnncfdlpogjlkaaGreatDoor.Ln
end
section
namespace Go.Proofs.YtnncfdlpogjlkaaGreatDoor.Ln
open Go.Ai Go.Ai.Ln Go
set_option maxRecDepth 100000
open Go.IntKind (wrap i64 u8)
open Go.Ai.AV (int str sl tup bool agg ptr)
open Go.Ai.Blk (mem grow)
open Go.Ai.Fm (code block loop)
open Go.Ai.XT (normal)
open List (length)
open Prod (fst snd)
open UInt8 (toNat)
open Tryz (prog f31 f45 f71 f72 f73 f76 f87)
theorem t72_1 {K : AV → Hp → Prop} {t7000 t7001 t7002 t7003 t7004 : Nat} {k2 k3 : IntKind} {a b r : List UInt8} {c e : Int} {bad : Bool}  (hT : TabOk cfg (ctab [(70, cutC)])) (H : ∃ (s1 : List UInt8), length s1 ≤ 100000 ∧ [str r, str [32]] = [str s1, str [32]] ∧ ifP bad (K (str (fst (cutB s1))) [mem t7000 [str a], mem t7001 [str b], mem t7002 [int k2 c], mem t7003 [int k3 e], mem t7004 [str (fst (snd (cutB s1))), bool true]]) (K (str (fst (cutB s1))) [mem t7000 [str a], mem t7001 [str b], mem t7002 [int k2 c], mem t7003 [int k3 e], mem t7004 [str (fst (snd (cutB s1))), bool !snd (snd (cutB s1))]])) : ToEnd cfg 72 (bodyOf f72) (RetIn prog f72 5 K) ([.code []]) .normal ([(0, true, .ptr 4 0)]) ([.mem t7000 [.str a], .mem t7001 [.str b], .mem t7002 [.int k2 c], .mem t7003 [.int k3 e], .mem t7004 [.str r, .bool bad]]) := by
  exact unr_ok (pl := ⟨[], []⟩) hT 100000 _ _ _ _ (unr_use H (by kernel_rfl))
theorem t72_2 {K : AV → Hp → Prop} {t7000 t7001 t7002 t7003 t7004 : Nat} {k0 k2 k3 : IntKind} {b r : List UInt8} {a c e : Int} {bad : Bool}  (hT : TabOk cfg (ctab [(70, cutC)])) (H : ∃ (s1 : List UInt8), length s1 ≤ 100000 ∧ [str r, str [32]] = [str s1, str [32]] ∧ ifP bad (K (str (fst (cutB s1))) [mem t7000 [int k0 a], mem t7001 [str b], mem t7002 [int k2 c], mem t7003 [int k3 e], mem t7004 [str (fst (snd (cutB s1))), bool true]]) (K (str (fst (cutB s1))) [mem t7000 [int k0 a], mem t7001 [str b], mem t7002 [int k2 c], mem t7003 [int k3 e], mem t7004 [str (fst (snd (cutB s1))), bool !snd (snd (cutB s1))]])) : ToEnd cfg 72 (bodyOf f72) (RetIn prog f72 5 K) ([.code []]) .normal ([(0, true, .ptr 4 0)]) ([.mem t7000 [.int k0 a], .mem t7001 [.str b], .mem t7002 [.int k2 c], .mem t7003 [.int k3 e], .mem t7004 [.str r, .bool bad]]) := by
  exact unr_ok (pl := ⟨[], []⟩) hT 100000 _ _ _ _ (unr_use H (by kernel_rfl))
theorem t73_1 {K : AV → Hp → Prop} {t7000 t7001 t7002 t7003 t7004 : Nat} {k2 k3 : IntKind} {a b r : List UInt8} {c e : Int} {bad : Bool} {l s : List UInt8} (hT : TabOk cfg (ctab [(74, holdsC)])) (H : ifP bad (K (tup []) [mem t7000 [str a], mem t7001 [str b], mem t7002 [int k2 c], mem t7003 [int k3 e], mem t7004 [str r, bool true]]) (∃ (l1 : List UInt8) (s2 : List UInt8), length l1 ≤ 6 ∧ length l1 % 2 = 0 ∧ length s2 ≤ 100000 ∧ [str l, str s] = [str l1, str s2] ∧ K (tup []) [mem t7000 [str a], mem t7001 [str b], mem t7002 [int k2 c], mem t7003 [int k3 e], mem t7004 [str r, bool !List.all s2 (inL l1)]])) : ToEnd cfg 73 (bodyOf f73) (RetIn prog f73 5 K) ([.code []]) .normal ([(0, true, .ptr 4 0), (1, true, .fn (.func 74) [] []), (2, true, .str l), (3, true, .str s)]) ([.mem t7000 [.str a], .mem t7001 [.str b], .mem t7002 [.int k2 c], .mem t7003 [.int k3 e], .mem t7004 [.str r, .bool bad]]) := by
  exact unr_ok (pl := ⟨[], []⟩) hT 100000 _ _ _ _ (unr_use H (by kernel_rfl))
theorem t73_2 {K : AV → Hp → Prop} {t7000 t7001 t7002 t7003 t7004 : Nat} {k0 k2 k3 : IntKind} {b r : List UInt8} {a c e : Int} {bad : Bool} {l s : List UInt8} (hT : TabOk cfg (ctab [(74, holdsC)])) (H : ifP bad (K (tup []) [mem t7000 [int k0 a], mem t7001 [str b], mem t7002 [int k2 c], mem t7003 [int k3 e], mem t7004 [str r, bool true]]) (∃ (l1 : List UInt8) (s2 : List UInt8), length l1 ≤ 6 ∧ length l1 % 2 = 0 ∧ length s2 ≤ 100000 ∧ [str l, str s] = [str l1, str s2] ∧ K (tup []) [mem t7000 [int k0 a], mem t7001 [str b], mem t7002 [int k2 c], mem t7003 [int k3 e], mem t7004 [str r, bool !List.all s2 (inL l1)]])) : ToEnd cfg 73 (bodyOf f73) (RetIn prog f73 5 K) ([.code []]) .normal ([(0, true, .ptr 4 0), (1, true, .fn (.func 74) [] []), (2, true, .str l), (3, true, .str s)]) ([.mem t7000 [.int k0 a], .mem t7001 [.str b], .mem t7002 [.int k2 c], .mem t7003 [.int k3 e], .mem t7004 [.str r, .bool bad]]) := by
  exact unr_ok (pl := ⟨[], []⟩) hT 100000 _ _ _ _ (unr_use H (by kernel_rfl))
theorem t76_1 {K : AV → Hp → Prop} {t7000 t7001 t7002 t7003 t7004 : Nat} {k2 k3 : IntKind} {a b r : List UInt8} {c e : Int} {bad : Bool} {s : List UInt8} (hT : TabOk cfg (ctab [(115, cutPC), (116, byteC isDg)])) (H : ∃ (s1 : List UInt8) (x2 : List UInt8), [str s, str [72, 84, 84, 80, 47]] = [str s1, str x2] ∧ ifP bad (K (tup [int i64 0, int i64 4]) [mem t7000 [str a], mem t7001 [str b], mem t7002 [int k2 c], mem t7003 [int k3 e], mem t7004 [str r, bool true]]) (ifP (!snd (cutP s1 x2)) (K (tup [int i64 0, int i64 4]) [mem t7000 [str a], mem t7001 [str b], mem t7002 [int k2 c], mem t7003 [int k3 e], mem t7004 [str r, bool true]]) (ifP ((↑(length (fst (cutP s1 x2))) : Int) != 3) (K (tup [int i64 0, int i64 4]) [mem t7000 [str a], mem t7001 [str b], mem t7002 [int k2 c], mem t7003 [int k3 e], mem t7004 [str r, bool true]]) (gAnd (inR 0 (length (fst (cutP s1 x2)))) (∃ (c3 : UInt8), [int u8 (↑(toNat (List.getD (fst (cutP s1 x2)) 0 0)) : Int)] = [int u8 (↑(toNat c3) : Int)] ∧ ifP (!isDg c3) (K (tup [int i64 0, int i64 4]) [mem t7000 [str a], mem t7001 [str b], mem t7002 [int k2 c], mem t7003 [int k3 e], mem t7004 [str r, bool true]]) (gAnd (inR 1 (length (fst (cutP s1 x2)))) (ifP ((↑(toNat (List.getD (fst (cutP s1 x2)) 1 0)) : Int) != 46) (K (tup [int i64 0, int i64 4]) [mem t7000 [str a], mem t7001 [str b], mem t7002 [int k2 c], mem t7003 [int k3 e], mem t7004 [str r, bool true]]) (gAnd (inR 2 (length (fst (cutP s1 x2)))) (∃ (c4 : UInt8), [int u8 (↑(toNat (List.getD (fst (cutP s1 x2)) 2 0)) : Int)] = [int u8 (↑(toNat c4) : Int)] ∧ ifP (!isDg c4) (K (tup [int i64 0, int i64 4]) [mem t7000 [str a], mem t7001 [str b], mem t7002 [int k2 c], mem t7003 [int k3 e], mem t7004 [str r, bool true]]) (gAnd (inR 0 (length (fst (cutP s1 x2)))) (ifP ((↑(toNat (List.getD (fst (cutP s1 x2)) 0 0)) : Int) != 49) (K (tup [int i64 0, int i64 9]) [mem t7000 [str a], mem t7001 [str b], mem t7002 [int k2 c], mem t7003 [int k3 e], mem t7004 [str r, bool bad]]) (gAnd (inR 2 (length (fst (cutP s1 x2)))) (K (tup [int i64 (min 1 (wrap i64 (wrap u8 ((↑(toNat (List.getD (fst (cutP s1 x2)) 2 0)) : Int) - 48)))), int i64 0]) [mem t7000 [str a], mem t7001 [str b], mem t7002 [int k2 c], mem t7003 [int k3 e], mem t7004 [str r, bool bad]]))))))))))))) : ToEnd cfg 76 (bodyOf f76) (RetIn prog f76 5 K) ([.code []]) .normal ([(0, true, .ptr 4 0), (1, true, .str s)]) ([.mem t7000 [.str a], .mem t7001 [.str b], .mem t7002 [.int k2 c], .mem t7003 [.int k3 e], .mem t7004 [.str r, .bool bad]]) := by
  exact unr_ok (pl := ⟨[], []⟩) hT 100000 _ _ _ _ (unr_use H (by kernel_rfl))
theorem t76_2 {K : AV → Hp → Prop} {t7000 t7001 t7002 t7003 t7004 : Nat} {k0 k2 k3 : IntKind} {b r : List UInt8} {a c e : Int} {bad : Bool} {s : List UInt8} (hT : TabOk cfg (ctab [(115, cutPC), (116, byteC isDg)])) (H : ∃ (s1 : List UInt8) (x2 : List UInt8), [str s, str [72, 84, 84, 80, 47]] = [str s1, str x2] ∧ ifP bad (K (tup [int i64 0, int i64 4]) [mem t7000 [int k0 a], mem t7001 [str b], mem t7002 [int k2 c], mem t7003 [int k3 e], mem t7004 [str r, bool true]]) (ifP (!snd (cutP s1 x2)) (K (tup [int i64 0, int i64 4]) [mem t7000 [int k0 a], mem t7001 [str b], mem t7002 [int k2 c], mem t7003 [int k3 e], mem t7004 [str r, bool true]]) (ifP ((↑(length (fst (cutP s1 x2))) : Int) != 3) (K (tup [int i64 0, int i64 4]) [mem t7000 [int k0 a], mem t7001 [str b], mem t7002 [int k2 c], mem t7003 [int k3 e], mem t7004 [str r, bool true]]) (gAnd (inR 0 (length (fst (cutP s1 x2)))) (∃ (c3 : UInt8), [int u8 (↑(toNat (List.getD (fst (cutP s1 x2)) 0 0)) : Int)] = [int u8 (↑(toNat c3) : Int)] ∧ ifP (!isDg c3) (K (tup [int i64 0, int i64 4]) [mem t7000 [int k0 a], mem t7001 [str b], mem t7002 [int k2 c], mem t7003 [int k3 e], mem t7004 [str r, bool true]]) (gAnd (inR 1 (length (fst (cutP s1 x2)))) (ifP ((↑(toNat (List.getD (fst (cutP s1 x2)) 1 0)) : Int) != 46) (K (tup [int i64 0, int i64 4]) [mem t7000 [int k0 a], mem t7001 [str b], mem t7002 [int k2 c], mem t7003 [int k3 e], mem t7004 [str r, bool true]]) (gAnd (inR 2 (length (fst (cutP s1 x2)))) (∃ (c4 : UInt8), [int u8 (↑(toNat (List.getD (fst (cutP s1 x2)) 2 0)) : Int)] = [int u8 (↑(toNat c4) : Int)] ∧ ifP (!isDg c4) (K (tup [int i64 0, int i64 4]) [mem t7000 [int k0 a], mem t7001 [str b], mem t7002 [int k2 c], mem t7003 [int k3 e], mem t7004 [str r, bool true]]) (gAnd (inR 0 (length (fst (cutP s1 x2)))) (ifP ((↑(toNat (List.getD (fst (cutP s1 x2)) 0 0)) : Int) != 49) (K (tup [int i64 0, int i64 9]) [mem t7000 [int k0 a], mem t7001 [str b], mem t7002 [int k2 c], mem t7003 [int k3 e], mem t7004 [str r, bool bad]]) (gAnd (inR 2 (length (fst (cutP s1 x2)))) (K (tup [int i64 (min 1 (wrap i64 (wrap u8 ((↑(toNat (List.getD (fst (cutP s1 x2)) 2 0)) : Int) - 48)))), int i64 0]) [mem t7000 [int k0 a], mem t7001 [str b], mem t7002 [int k2 c], mem t7003 [int k3 e], mem t7004 [str r, bool bad]]))))))))))))) : ToEnd cfg 76 (bodyOf f76) (RetIn prog f76 5 K) ([.code []]) .normal ([(0, true, .ptr 4 0), (1, true, .str s)]) ([.mem t7000 [.int k0 a], .mem t7001 [.str b], .mem t7002 [.int k2 c], .mem t7003 [.int k3 e], .mem t7004 [.str r, .bool bad]]) := by
  exact unr_ok (pl := ⟨[], []⟩) hT 100000 _ _ _ _ (unr_use H (by kernel_rfl))
theorem t71 {K : AV → Hp → Prop} {t7000 t7001 t7002 t7003 t7004 : Nat} {k2 : IntKind} {a b r : List UInt8} {c e : Int} {bad : Bool}  (hT : TabOk cfg (ctab [])) (H : ifP (e != 0) (K (tup []) [mem t7000 [str []], mem t7001 [str []], mem t7002 [int i64 0], mem t7003 [int i64 e], mem t7004 [str r, bool bad]]) (K (tup []) [mem t7000 [str a], mem t7001 [str b], mem t7002 [int k2 c], mem t7003 [int i64 e], mem t7004 [str r, bool bad]])) : ToEnd cfg 71 (bodyOf f71) (RetIn prog f71 5 K) ([.code []]) .normal ([(0, true, .ptr 3 0), (1, true, .ptr 0 0), (2, true, .ptr 1 0), (3, true, .ptr 2 0)]) ([.mem t7000 [.str a], .mem t7001 [.str b], .mem t7002 [.int k2 c], .mem t7003 [.int .i64 e], .mem t7004 [.str r, .bool bad]]) := by
  exact unr_ok (pl := ⟨[], []⟩) hT 100000 _ _ _ _ (unr_use H (by kernel_rfl))
theorem t87 {K : AV → Hp → Prop} {t7000 t7001 t7002 t7003 t7004 : Nat} {k0 k2 : IntKind} {b r : List UInt8} {a c e : Int} {bad : Bool}  (hT : TabOk cfg (ctab [])) (H : ifP (e != 0) (K (tup []) [mem t7000 [int i64 0], mem t7001 [str []], mem t7002 [int i64 0], mem t7003 [int i64 e], mem t7004 [str r, bool bad]]) (K (tup []) [mem t7000 [int k0 a], mem t7001 [str b], mem t7002 [int k2 c], mem t7003 [int i64 e], mem t7004 [str r, bool bad]])) : ToEnd cfg 87 (bodyOf f87) (RetIn prog f87 5 K) ([.code []]) .normal ([(0, true, .ptr 3 0), (1, true, .ptr 0 0), (2, true, .ptr 1 0), (3, true, .ptr 2 0)]) ([.mem t7000 [.int k0 a], .mem t7001 [.str b], .mem t7002 [.int k2 c], .mem t7003 [.int .i64 e], .mem t7004 [.str r, .bool bad]]) := by
  exact unr_ok (pl := ⟨[], []⟩) hT 100000 _ _ _ _ (unr_use H (by kernel_rfl))
theorem t31 {v : AV} {s : List UInt8} (hT : TabOk cfg (ctab [(71, wipe1C), (72, untilC), (73, needC 74), (75, strC tokenB), (76, versionC)])) (H : ifP (decide ((↑(length s) : Int) > 2048)) (tup [str [], str [], int i64 0, int i64 3] = v) (length s ≤ 100000 ∧ [ptr 4 0] = [ptr 4 0] ∧ length (fst (snd (cutB s))) ≤ 100000 ∧ [ptr 4 0] = [ptr 4 0] ∧ ∃ (l1 : List UInt8) (s2 : List UInt8), length l1 ≤ 6 ∧ length l1 % 2 = 0 ∧ length s2 ≤ 100000 ∧ [ptr 4 0, AV.fn (Fn.func 74) [] [], str [33, 126], str (fst (cutB (fst (snd (cutB s)))))] = [ptr 4 0, AV.fn (Fn.func 74) [] [], str l1, str s2] ∧ ifP (!snd (snd (cutB s)) || !snd (snd (cutB (fst (snd (cutB s))))) || !List.all s2 (inL l1)) (∃ (s3 : List UInt8), length s3 ≤ 100000 ∧ [ptr 4 0, str (fst (snd (cutB (fst (snd (cutB s))))))] = [ptr 4 0, str s3] ∧ [ptr 3 0, ptr 0 0, ptr 1 0, ptr 2 0] = [ptr 3 0, ptr 0 0, ptr 1 0, ptr 2 0] ∧ tup [str [], str [], int i64 0, int i64 4] = v) (∃ (s4 : List UInt8), length s4 ≤ 100000 ∧ [str (fst (cutB s))] = [str s4] ∧ ifP (!tokenB s4) (∃ (s5 : List UInt8), length s5 ≤ 100000 ∧ [ptr 4 0, str (fst (snd (cutB (fst (snd (cutB s))))))] = [ptr 4 0, str s5] ∧ [ptr 3 0, ptr 0 0, ptr 1 0, ptr 2 0] = [ptr 3 0, ptr 0 0, ptr 1 0, ptr 2 0] ∧ tup [str [], str [], int i64 0, int i64 4] = v) (∃ (s6 : List UInt8), length s6 ≤ 100000 ∧ [ptr 4 0, str (fst (snd (cutB (fst (snd (cutB s))))))] = [ptr 4 0, str s6] ∧ ifP (snd (verB (fst (cutB (fst (snd (cutB s)))) == []) s6) == 0) (ifP (decide ((↑(length (fst (cutB (fst (snd (cutB s)))))) : Int) > 1024)) ([ptr 3 0, ptr 0 0, ptr 1 0, ptr 2 0] = [ptr 3 0, ptr 0 0, ptr 1 0, ptr 2 0] ∧ tup [str [], str [], int i64 0, int i64 3] = v) ([ptr 3 0, ptr 0 0, ptr 1 0, ptr 2 0] = [ptr 3 0, ptr 0 0, ptr 1 0, ptr 2 0] ∧ ifP (snd (verB (fst (cutB (fst (snd (cutB s)))) == []) s6) == 0) (tup [str (fst (cutB s)), str (fst (cutB (fst (snd (cutB s))))), int i64 (fst (verB (fst (cutB (fst (snd (cutB s)))) == []) s6)), int i64 (snd (verB (fst (cutB (fst (snd (cutB s)))) == []) s6))] = v) (tup [str [], str [], int i64 0, int i64 (snd (verB (fst (cutB (fst (snd (cutB s)))) == []) s6))] = v))) ([ptr 3 0, ptr 0 0, ptr 1 0, ptr 2 0] = [ptr 3 0, ptr 0 0, ptr 1 0, ptr 2 0] ∧ ifP (snd (verB (fst (cutB (fst (snd (cutB s)))) == []) s6) == 0) (tup [str (fst (cutB s)), str (fst (cutB (fst (snd (cutB s))))), int i64 (fst (verB (fst (cutB (fst (snd (cutB s)))) == []) s6)), int i64 (snd (verB (fst (cutB (fst (snd (cutB s)))) == []) s6))] = v) (tup [str [], str [], int i64 0, int i64 (snd (verB (fst (cutB (fst (snd (cutB s)))) == []) s6))] = v)))))) : ToEnd cfg 31 (bodyOf f31) (RetD cfg (ctab [(71, wipe1C), (72, untilC), (73, needC 74), (75, strC tokenB), (76, versionC)]) Tryz.f31 fun u h2 => stripR 0 h2 u = v) ([.code []]) .normal ([(0, true, .str s), (1000000, true, .dfr [])]) ([]) := by
  exact unr_ok (pl := ⟨[], []⟩) hT 100000 _ _ _ _ (unr_use H (by kernel_rfl))
theorem t45 {v : AV} {s : List UInt8} (hT : TabOk cfg (ctab [(87, wipe2C), (72, untilC), (73, needC 74), (76, versionC), (88, atoiC)])) (H : ifP (decide ((↑(length s) : Int) > 2048)) (tup [int i64 0, str [], int i64 0, int i64 3] = v) (length s ≤ 100000 ∧ [ptr 4 0] = [ptr 4 0] ∧ length (fst (snd (cutB s))) ≤ 100000 ∧ [ptr 4 0] = [ptr 4 0] ∧ ∃ (l1 : List UInt8) (s2 : List UInt8), length l1 ≤ 6 ∧ length l1 % 2 = 0 ∧ length s2 ≤ 100000 ∧ [ptr 4 0, AV.fn (Fn.func 74) [] [], str [9, 9, 32, 126, 128, 255], str (fst (snd (cutB (fst (snd (cutB s))))))] = [ptr 4 0, AV.fn (Fn.func 74) [] [], str l1, str s2] ∧ ∃ (l3 : List UInt8) (s4 : List UInt8), length l3 ≤ 6 ∧ length l3 % 2 = 0 ∧ length s4 ≤ 100000 ∧ [ptr 4 0, AV.fn (Fn.func 74) [] [], str [48, 57], str (fst (cutB (fst (snd (cutB s)))))] = [ptr 4 0, AV.fn (Fn.func 74) [] [], str l3, str s4] ∧ ifP (!snd (snd (cutB s)) || !snd (snd (cutB (fst (snd (cutB s))))) || !List.all s2 (inL l1) || !List.all s4 (inL l3)) (∃ (s5 : List UInt8), length s5 ≤ 100000 ∧ [ptr 4 0, str (fst (cutB s))] = [ptr 4 0, str s5] ∧ ∃ (s6 : List UInt8), length s6 ≤ 100000 ∧ [str (fst (cutB (fst (snd (cutB s)))))] = [str s6] ∧ [ptr 3 0, ptr 0 0, ptr 1 0, ptr 2 0] = [ptr 3 0, ptr 0 0, ptr 1 0, ptr 2 0] ∧ tup [int i64 0, str [], int i64 0, int i64 4] = v) (ifP ((↑(length (fst (cutB (fst (snd (cutB s)))))) : Int) != 3) (∃ (s7 : List UInt8), length s7 ≤ 100000 ∧ [ptr 4 0, str (fst (cutB s))] = [ptr 4 0, str s7] ∧ ∃ (s8 : List UInt8), length s8 ≤ 100000 ∧ [str (fst (cutB (fst (snd (cutB s)))))] = [str s8] ∧ [ptr 3 0, ptr 0 0, ptr 1 0, ptr 2 0] = [ptr 3 0, ptr 0 0, ptr 1 0, ptr 2 0] ∧ tup [int i64 0, str [], int i64 0, int i64 4] = v) (gAnd (inR 0 (length (fst (cutB (fst (snd (cutB s))))))) (ifP (decide ((↑(toNat (List.getD (fst (cutB (fst (snd (cutB s))))) 0 0)) : Int) < 49)) (∃ (s9 : List UInt8), length s9 ≤ 100000 ∧ [ptr 4 0, str (fst (cutB s))] = [ptr 4 0, str s9] ∧ ∃ (s10 : List UInt8), length s10 ≤ 100000 ∧ [str (fst (cutB (fst (snd (cutB s)))))] = [str s10] ∧ [ptr 3 0, ptr 0 0, ptr 1 0, ptr 2 0] = [ptr 3 0, ptr 0 0, ptr 1 0, ptr 2 0] ∧ tup [int i64 0, str [], int i64 0, int i64 4] = v) (gAnd (inR 0 (length (fst (cutB (fst (snd (cutB s))))))) (∃ (s11 : List UInt8), length s11 ≤ 100000 ∧ [ptr 4 0, str (fst (cutB s))] = [ptr 4 0, str s11] ∧ ∃ (s12 : List UInt8), length s12 ≤ 100000 ∧ [str (fst (cutB (fst (snd (cutB s)))))] = [str s12] ∧ [ptr 3 0, ptr 0 0, ptr 1 0, ptr 2 0] = [ptr 3 0, ptr 0 0, ptr 1 0, ptr 2 0] ∧ ifP (snd (verB (decide ((↑(toNat (List.getD (fst (cutB (fst (snd (cutB s))))) 0 0)) : Int) > 53)) s11) == 0) (tup [int i64 (atoiV s12), str (fst (snd (cutB (fst (snd (cutB s)))))), int i64 (fst (verB (decide ((↑(toNat (List.getD (fst (cutB (fst (snd (cutB s))))) 0 0)) : Int) > 53)) s11)), int i64 (snd (verB (decide ((↑(toNat (List.getD (fst (cutB (fst (snd (cutB s))))) 0 0)) : Int) > 53)) s11))] = v) (tup [int i64 0, str [], int i64 0, int i64 (snd (verB (decide ((↑(toNat (List.getD (fst (cutB (fst (snd (cutB s))))) 0 0)) : Int) > 53)) s11))] = v)))))))) : ToEnd cfg 45 (bodyOf f45) (RetD cfg (ctab [(87, wipe2C), (72, untilC), (73, needC 74), (76, versionC), (88, atoiC)]) Tryz.f45 fun u h2 => stripR 0 h2 u = v) ([.code []]) .normal ([(0, true, .str s), (1000000, true, .dfr [])]) ([]) := by
  exact unr_ok (pl := ⟨[], []⟩) hT 100000 _ _ _ _ (unr_use H (by kernel_rfl))
end Go.Proofs.YtnncfdlpogjlkaaGreatDoor.Ln
end
section
namespace Go.Proofs.YtnncfdlpogjlkaaGreatDoor.Ln
open Go.Ai Go.Ai.Ln Go
set_option maxRecDepth 100000
theorem hf72 : heapFn cfg 72 Tryz.f72 := (by refine ⟨?_, ?_, ?_, ?_, ?_, ?_⟩ <;> kernel_rfl)
theorem hf73 : heapFn cfg 73 Tryz.f73 := (by refine ⟨?_, ?_, ?_, ?_, ?_, ?_⟩ <;> kernel_rfl)
theorem hf76 : heapFn cfg 76 Tryz.f76 := (by refine ⟨?_, ?_, ?_, ?_, ?_, ?_⟩ <;> kernel_rfl)
theorem hf71 : heapFn cfg 71 Tryz.f71 := (by refine ⟨?_, ?_, ?_, ?_, ?_, ?_⟩ <;> kernel_rfl)
theorem hf87 : heapFn cfg 87 Tryz.f87 := (by refine ⟨?_, ?_, ?_, ?_, ?_, ?_⟩ <;> kernel_rfl)
theorem df10 : dfrFn cfg 31 Tryz.f31 := (by refine ⟨?_, ?_, ?_, ?_, ?_, ?_⟩ <;> kernel_rfl)
theorem df12 : dfrFn cfg 45 Tryz.f45 := (by refine ⟨?_, ?_, ?_, ?_, ?_, ?_⟩ <;> kernel_rfl)
theorem c72 : COk cfg 72 untilC := by
  have hT := ctab_ok (ctab_cons c70 ctab_nil)
  refine cok_heap hf72 fun vs h K ht => ?_
  unfold untilC at ht; split at ht
  · obtain ⟨h1, rfl, hk⟩ := ht
    refine t72_1 hT ⟨_, h1, rfl, ifP_intro (fun a => ?_) fun a => ?_⟩ <;> (subst a; exact hk)
  · obtain ⟨h1, rfl, hk⟩ := ht
    refine t72_2 hT ⟨_, h1, rfl, ifP_intro (fun a => ?_) fun a => ?_⟩ <;> (subst a; exact hk)
  · exact ht.elim
theorem c73 : COk cfg 73 (needC 74) := by
  have hT := ctab_ok (ctab_cons c74 ctab_nil)
  refine cok_heap hf73 fun vs h K ht => ?_
  unfold needC at ht; split at ht
  · obtain ⟨l, s, h1, h2, h3, rfl, hk⟩ := ht
    refine t73_1 hT (ifP_intro (fun a => ?_) fun a => ⟨l, s, h1, h2, h3, rfl, ?_⟩) <;> (subst a; exact hk)
  · obtain ⟨l, s, h1, h2, h3, rfl, hk⟩ := ht
    refine t73_2 hT (ifP_intro (fun a => ?_) fun a => ⟨l, s, h1, h2, h3, rfl, ?_⟩) <;> (subst a; exact hk)
  · exact ht.elim
theorem c71 : COk cfg 71 wipe1C := by
  refine cok_heap hf71 fun vs h K ht => ?_
  unfold wipe1C at ht; split at ht
  · rename_i t7000 a t7001 b t7002 k2 c t7003 e t7004 r bad; obtain ⟨rfl, hk⟩ := ht
    refine t71 (ctab_ok ctab_nil) (ifP_intro (fun a => ?_) fun a => ?_)
    · have : (e == (0 : Int)) = false := by simpa using a
      rw [this] at hk; exact hk
    · have : (e == (0 : Int)) = true := by simpa using a
      rw [this] at hk; exact hk
  · exact ht.elim
theorem c87 : COk cfg 87 wipe2C := by
  refine cok_heap hf87 fun vs h K ht => ?_
  unfold wipe2C at ht; split at ht
  · rename_i t7000 k0 a t7001 b t7002 k2 c t7003 e t7004 r bad; obtain ⟨rfl, hk⟩ := ht
    refine t87 (ctab_ok ctab_nil) (ifP_intro (fun a => ?_) fun a => ?_)
    · have : (e == (0 : Int)) = false := by simpa using a
      rw [this] at hk; exact hk
    · have : (e == (0 : Int)) = true := by simpa using a
      rw [this] at hk; exact hk
  · exact ht.elim
theorem cut_ver (s : List UInt8) : ((cutP s [72, 84, 84, 80, 47]).2 = false ∧ verOf s = none) ∨ ((cutP s [72, 84, 84, 80, 47]).2 = true ∧ s = [72, 84, 84, 80, 47] ++ (cutP s [72, 84, 84, 80, 47]).1) := by
  unfold cutP
  cases h : List.isPrefixOf [72, 84, 84, 80, 47] s with
  | true =>
    right; obtain ⟨t, ht⟩ := List.isPrefixOf_iff_prefix.1 h; refine ⟨rfl, ?_⟩; rw [← ht]; rfl
  | false =>
    left; refine ⟨rfl, ?_⟩
    cases hv : verOf s with
    | none => rfl
    | some p =>
      have := (verOf_some (a := p.1) (b := p.2) hv).1; rw [this] at h; simp at h
theorem ver_tail {q : List UInt8} (h : q.length = 3) : ∃ x f y, q = [x, f, y] := by
  match q, h with
  | [x, f, y], _ => exact ⟨x, f, y, rfl⟩
theorem ver_none3 {q : List UInt8} (h : q.length ≠ 3) : verOf ([72, 84, 84, 80, 47] ++ q) = none := ver_not8 (by simp; omega)
theorem ver_none_of {x f y : UInt8} (h : isDg x = false ∨ f ≠ 46 ∨ isDg y = false) : verOf [72, 84, 84, 80, 47, x, f, y] = none := by
  cases hv : verOf [72, 84, 84, 80, 47, x, f, y] with
  | none => rfl
  | some p =>
    obtain ⟨h1, h2, h3⟩ := verOf_some (a := p.1) (b := p.2) hv; simp only [List.cons.injEq, and_true, true_and] at h1; obtain ⟨rfl, rfl, rfl⟩ := h1
    rcases h with h | h | h
    · rw [h2] at h; cases h
    · exact absurd rfl h
    · rw [h3] at h; cases h
theorem one_min {y : UInt8} (h : isDg y = true) : min 1 (IntKind.wrap .i64 (IntKind.wrap .u8 ((y.toNat : Int) - 48))) = ((min 1 (y.toNat - 48) : Nat) : Int) := by
  have := dg_range h
  have e : IntKind.wrap .u8 ((y.toNat : Int) - 48) = (y.toNat : Int) - 48 := by
    simp only [IntKind.wrap, IntKind.signed, IntKind.bits]; simp; omega
  rw [e, wrap_in (by omega) (by omega)]
  omega
theorem c76 : COk cfg 76 versionC := by
  have hT := ctab_ok (ctab_cons c115 (ctab_cons c116 ctab_nil))
  refine cok_heap hf76 fun vs h K ht => ?_
  unfold versionC at ht
  have key : ∀ (bad : Bool) (s : List UInt8) (X : Int → Int → Bool → Prop), X (verB bad s).1 (verB bad s).2 (verBad bad s) →
      ifP bad (X 0 4 true) (ifP (!(cutP s [72, 84, 84, 80, 47]).2) (X 0 4 true) (ifP (((cutP s [72, 84, 84, 80, 47]).1.length : Int) != 3) (X 0 4 true) (gAnd (inR 0 (cutP s [72, 84, 84, 80, 47]).1.length) (∃ c7003 : UInt8, [AV.int .u8 (List.getD (cutP s [72, 84, 84, 80, 47]).1 0 0).toNat] = [AV.int .u8 c7003.toNat] ∧
        ifP (!isDg c7003) (X 0 4 true) (gAnd (inR 1 (cutP s [72, 84, 84, 80, 47]).1.length) (ifP (((List.getD (cutP s [72, 84, 84, 80, 47]).1 1 0).toNat : Int) != 46) (X 0 4 true) (gAnd (inR 2 (cutP s [72, 84, 84, 80, 47]).1.length) (∃ c7004 : UInt8, [AV.int .u8 (List.getD (cutP s [72, 84, 84, 80, 47]).1 2 0).toNat] = [AV.int .u8 c7004.toNat] ∧
          ifP (!isDg c7004) (X 0 4 true) (gAnd (inR 0 (cutP s [72, 84, 84, 80, 47]).1.length) (ifP (((List.getD (cutP s [72, 84, 84, 80, 47]).1 0 0).toNat : Int) != 49) (X 0 9 bad) (gAnd (inR 2 (cutP s [72, 84, 84, 80, 47]).1.length) (X (min 1 (IntKind.wrap .i64 (IntKind.wrap .u8 (((List.getD (cutP s [72, 84, 84, 80, 47]).1 2 0).toNat : Int) - 48)))) 0 bad)))))))))))) := by
    intro bad s X hX
    have wrong : (bad = true ∨ verOf s = none) → X 0 4 true := fun hw => by
      rw [verB_bad hw] at hX
      have : verBad bad s = true := by
        unfold verBad
        rcases hw with rfl | hw
        · rfl
        · rw [hw]; simp
      rw [this] at hX; exact hX
    refine ifP_intro (fun a => wrong (.inl a)) fun a => ?_
    subst a
    rcases cut_ver s with ⟨h1, h2⟩ | ⟨h1, h2⟩
    · rw [h1]
      exact ifP_intro (fun _ => wrong (.inr h2)) fun a => by cases a
    · rw [h1]; generalize (cutP s [72, 84, 84, 80, 47]).1 = q at h2
      refine ifP_intro (fun a => by cases a) fun _ => ifP_intro (fun a => wrong (.inr ?_)) fun a => ?_
      · rw [h2]; exact ver_none3 fun e => by rw [e] at a; cases a
      · have hq : q.length = 3 := by
          have : (q.length : Int) = 3 := by simpa using a
          omega
        obtain ⟨x, f, y, rfl⟩ := ver_tail hq; have h2 : s = [72, 84, 84, 80, 47, x, f, y] := h2
        refine gAnd_intro (inR_of (by omega) (by simp)) ⟨x, rfl, ifP_intro (fun b => wrong (.inr ?_)) fun b => gAnd_intro (inR_of (by omega) (by simp)) (ifP_intro (fun c => wrong (.inr ?_)) fun c => gAnd_intro (inR_of (by omega) (by simp)) ⟨y, rfl, ifP_intro (fun d => wrong (.inr ?_)) fun d => gAnd_intro (inR_of (by omega) (by simp)) ?_⟩)⟩
        · rw [h2]; exact ver_none_of (.inl (by simpa using b))
        · rw [h2]; exact ver_none_of (.inr (.inl fun e => by rw [e] at c; cases c))
        · rw [h2]; exact ver_none_of (.inr (.inr (by simpa using d)))
        · have b' : isDg x = true := by simpa using b
          have d' : isDg y = true := by simpa using d
          have c' : f = 46 := UInt8.toNat_inj.1 (by
            have : (f.toNat : Int) = 46 := by simpa using c
            show f.toNat = 46; omega)
          subst c'
          have hv : verOf s = some (x, y) := by rw [h2]; exact verOf_mk b' d'
          have hbad : verBad false s = false := by unfold verBad; rw [hv]; rfl
          rw [hbad] at hX
          have hB : verB false s = if x = 49 then (((min 1 (y.toNat - 48) : Nat) : Int), 0) else (0, 9) := by simp only [verB, hv]
          rw [hB] at hX
          refine ifP_intro (fun k => ?_) fun k => gAnd_intro (inR_of (by omega) (by simp)) ?_
          · rw [if_neg fun e => by rw [e] at k; cases k] at hX
            exact hX
          · have : x = 49 := UInt8.toNat_inj.1 (by
              have : (x.toNat : Int) = 49 := by simpa using k
              show x.toNat = 49; omega)
            rw [if_pos this] at hX; have e2 : List.getD [x, (46 : UInt8), y] 2 0 = y := rfl; rw [e2, one_min d']; exact hX
  split at ht
  · rename_i t7000 a t7001 b t7002 k2 c t7003 k3 e t7004 r bad; obtain ⟨s, h1, rfl, hk⟩ := ht
    exact t76_1 hT ⟨s, _, rfl, key bad s (fun x y z => K (.tup [.int .i64 x, .int .i64 y]) [.mem t7000 [.str a], .mem t7001 [.str b], .mem t7002 [.int k2 c], .mem t7003 [.int k3 e], .mem t7004 [.str r, .bool z]]) hk⟩
  · rename_i t7000 k0 a t7001 b t7002 k2 c t7003 k3 e t7004 r bad; obtain ⟨s, h1, rfl, hk⟩ := ht
    exact t76_2 hT ⟨s, _, rfl, key bad s (fun x y z => K (.tup [.int .i64 x, .int .i64 y]) [.mem t7000 [.int k0 a], .mem t7001 [.str b], .mem t7002 [.int k2 c], .mem t7003 [.int k3 e], .mem t7004 [.str r, .bool z]]) hk⟩
  · exact ht.elim
end Go.Proofs.YtnncfdlpogjlkaaGreatDoor.Ln
end
section
namespace Go.Proofs.YtnncfdlpogjlkaaGreatDoor.Ln
open Go.Ai Go.Ai.Ln Go
set_option maxRecDepth 100000
theorem emp_eq (l : List UInt8) : l.isEmpty = (l == []) := by cases l <;> rfl
theorem all_target (l : List UInt8) : l.all (inL [33, 126]) = l.all targetB := by
  have : inL [33, 126] = targetB := funext in_target; rw [this]
theorem all_reason (l : List UInt8) : l.all (inL [9, 9, 32, 126, 128, 255]) = l.all reasonB := by
  have : inL [9, 9, 32, 126, 128, 255] = reasonB := funext in_reason; rw [this]
theorem all_digit (l : List UInt8) : l.all (inL [48, 57]) = l.all isDg := by
  have : inL [48, 57] = isDg := funext in_digit; rw [this]
theorem req_of_bad {s : List UInt8} (hl : ¬2048 < s.length) (h : reqBad s = true) : reqP s = ([], [], 0, 4) := by
  unfold reqP reqE; rw [if_neg hl, verB_bad (.inl h)]; rfl
theorem st_of_bad {s : List UInt8} (hl : ¬2048 < s.length) (h : stBad s = true) : stP s = (0, [], 0, 4) := by
  unfold stP; rw [if_neg hl, verB_bad (.inl h)]; rfl
theorem c31 : COk cfg 31 reqC := by
  have hT := ctab_ok (ctab_cons c71 (ctab_cons c72 (ctab_cons c73 (ctab_cons c75 (ctab_cons c76 ctab_nil)))))
  refine cok_dfr hT df10 fun vs h K ht => ?_
  obtain ⟨s, hs, rfl, hk⟩ := ht; refine ⟨_, hk, t31 hT ?_⟩; have h1 := cutB_len s; have h2 := cutB_len (cutB s).2.1; unfold big at hs
  refine ifP_intro (fun a => ?_) fun a => ?_
  · unfold reqP
    rw [if_pos (by simp at a; omega)]
  · have hle : ¬2048 < s.length := by simp at a; omega
    refine ⟨hs, rfl, by omega, rfl, [33, 126], _, by decide, by decide, by omega, rfl, ?_⟩
    rw [all_target]
    refine ifP_intro (fun b => ?_) fun b => ⟨_, by omega, rfl, ifP_intro (fun c => ?_) fun c => ⟨_, by omega, rfl, ?_⟩⟩
    · have hb : reqBad s = true := by unfold reqBad; rw [b]; rfl
      exact ⟨_, by omega, rfl, rfl, by rw [req_of_bad hle hb]⟩
    · have hb : reqBad s = true := by unfold reqBad; rw [b, c]; rfl
      exact ⟨_, by omega, rfl, rfl, by rw [req_of_bad hle hb]⟩
    · have hb : reqBad s = ((cutB (cutB s).2.1).1 == []) := by unfold reqBad; rw [b, c, emp_eq]; rfl
      unfold reqP reqE; rw [if_neg hle, hb]; generalize verB ((cutB (cutB s).2.1).1 == []) (cutB (cutB s).2.1).2.1 = e
      refine ifP_intro (fun d => ifP_intro (fun f => ⟨rfl, ?_⟩) fun f => ⟨rfl, ifP_intro (fun g => ?_) fun g => ?_⟩) fun d => ⟨rfl, ifP_intro (fun g => ?_) fun g => ?_⟩
      · have d' : e.2 = 0 := by simpa using d
        have f' : 1024 < (cutB (cutB s).2.1).1.length := by simp at f; omega
        have e1 : (if e.2 = 0 ∧ 1024 < (cutB (cutB s).2.1).1.length then (3 : Int) else e.2) = 3 := if_pos ⟨d', f'⟩
        rw [e1, if_neg (by decide)]
      · have d' : e.2 = 0 := by simpa using d
        have f' : ¬1024 < (cutB (cutB s).2.1).1.length := by simp at f; omega
        have e1 : (if e.2 = 0 ∧ 1024 < (cutB (cutB s).2.1).1.length then (3 : Int) else e.2) = 0 := by rw [if_neg fun k => f' k.2, d']
        rw [e1, if_pos rfl, d']
      · rw [d] at g; cases g
      · rw [d] at g; cases g
      · have d' : ¬e.2 = 0 := by simpa using d
        have e1 : (if e.2 = 0 ∧ 1024 < (cutB (cutB s).2.1).1.length then (3 : Int) else e.2) = e.2 := if_neg fun k => d' k.1
        rw [e1, if_neg d']
theorem atoi_code {c7000 c7001 c7002 : UInt8} (h0 : isDg c7000 = true) (h1 : isDg c7001 = true) (h2 : isDg c7002 = true) : atoiV [c7000, c7001, c7002] = codeN [c7000, c7001, c7002] := by
  have d0 := dg_range h0; have d1 := dg_range h1; have d2 := dg_range h2
  have e0 : ¬(c7000.toNat = 43 ∨ c7000.toNat = 45) := by omega
  have e1 : ¬(c7000.toNat = 45) := by omega
  have hp : Lib.parseMag [c7000, c7001, c7002] = .ok (((0 * 10 + (c7000.toNat - 48)) * 10 + (c7001.toNat - 48)) * 10 + (c7002.toNat - 48)) := by
    unfold Lib.parseMag
    rw [if_neg (by simp)]
    simp only [Lib.parseUint10]
    rw [if_pos d0, if_neg (by omega), if_neg (by omega), if_pos d1, if_neg (by omega), if_neg (by omega), if_pos d2, if_neg (by omega), if_neg (by omega)]
  have ha : Lib.atoiAll [c7000, c7001, c7002] = .ok (((((0 * 10 + (c7000.toNat - 48)) * 10 + (c7001.toNat - 48)) * 10 + (c7002.toNat - 48) : Nat)) : Int) := by
    unfold Lib.atoiAll; simp only [if_neg e0]; rw [hp]; simp only [e1, if_false]
    rw [if_neg (fun k => by have := k.2; omega), if_neg (fun k => k.1)]
  unfold atoiV; rw [ha]; simp only [codeN, List.getD_cons_zero, List.getD_cons_succ]; omega
theorem three {c : List UInt8} (h : c.length = 3) : ∃ c7000 c7001 c7002, c = [c7000, c7001, c7002] := by
  match c, h with
  | [x, y, z], _ => exact ⟨x, y, z, rfl⟩
theorem c45 : COk cfg 45 stC := by
  have hT := ctab_ok (ctab_cons c87 (ctab_cons c72 (ctab_cons c73 (ctab_cons c76 (ctab_cons c88 ctab_nil)))))
  refine cok_dfr hT df12 fun vs h K ht => ?_
  obtain ⟨s, hs, rfl, hk⟩ := ht; refine ⟨_, hk, t45 hT ?_⟩; have h1 := cutB_len s; have h2 := cutB_len (cutB s).2.1; unfold big at hs
  refine ifP_intro (fun a => ?_) fun a => ?_
  · unfold stP
    rw [if_pos (by simp at a; omega)]
  · have hle : ¬2048 < s.length := by simp at a; omega
    refine ⟨hs, rfl, by omega, rfl, [9, 9, 32, 126, 128, 255], _, by decide, by decide, by omega, rfl, [48, 57], _, by decide, by decide, by omega, rfl, ?_⟩
    rw [all_reason, all_digit]
    have wrong : stBad s = true → ∃ s5 : List UInt8, s5.length ≤ 100000 ∧ [AV.ptr 4 0, AV.str (cutB s).1] = [AV.ptr 4 0, AV.str s5] ∧ ∃ s6 : List UInt8, s6.length ≤ 100000 ∧ [AV.str (cutB (cutB s).2.1).1] = [AV.str s6] ∧
        [AV.ptr 3 0, AV.ptr 0 0, AV.ptr 1 0, AV.ptr 2 0] = [AV.ptr 3 0, AV.ptr 0 0, AV.ptr 1 0, AV.ptr 2 0] ∧ AV.tup [AV.int .i64 0, AV.str [], AV.int .i64 0, AV.int .i64 4] = AV.tup [AV.int .i64 (stP s).1, AV.str (stP s).2.1, AV.int .i64 (stP s).2.2.1, AV.int .i64 (stP s).2.2.2] :=
      fun hb => ⟨_, by omega, rfl, _, by omega, rfl, rfl, by rw [st_of_bad hle hb]⟩
    refine ifP_intro (fun b => wrong ?_) fun b => ifP_intro (fun c => wrong ?_) fun c => ?_
    · unfold stBad codeBad; simp only [Bool.or_eq_true] at b ⊢
      rcases b with b | b
      · exact .inl b
      · exact .inr (.inl b)
    · unfold stBad codeBad
      have : ((cutB (cutB s).2.1).1.length == 3) = false := by
        rw [beq_eq_false_iff_ne]; intro e; rw [e] at c; cases c
      simp [this]
    · have hc3 : (cutB (cutB s).2.1).1.length = 3 := by
        have : ((cutB (cutB s).2.1).1.length : Int) = 3 := by simpa using c
        omega
      have hlen3 : ((cutB (cutB s).2.1).1.length == 3) = true := by rw [hc3]; rfl
      refine gAnd_intro (inR_of (by omega) (by omega)) (ifP_intro (fun d => wrong ?_) fun d => gAnd_intro (inR_of (by omega) (by omega)) ⟨_, by omega, rfl, _, by omega, rfl, rfl, ?_⟩)
      · unfold stBad codeBad; simp only [decide_eq_true_eq] at d
        have : decide (((cutB (cutB s).2.1).1.getD 0 0).toNat < 49) = true := decide_eq_true (by omega)
        rw [hlen3, this]; simp
      · have hb : stBad s = decide ((((cutB (cutB s).2.1).1.getD 0 0).toNat : Int) > 53) := by
          unfold stBad codeBad; simp only [decide_eq_false_iff_not] at d
          have e1 : decide (((cutB (cutB s).2.1).1.getD 0 0).toNat < 49) = false := decide_eq_false (by omega)
          have e2 : decide (53 < ((cutB (cutB s).2.1).1.getD 0 0).toNat) = decide ((((cutB (cutB s).2.1).1.getD 0 0).toNat : Int) > 53) := by
            rw [Bool.eq_iff_iff, decide_eq_true_eq, decide_eq_true_eq]; omega
          rw [hlen3, e1, e2]; simp only [Bool.or_eq_false_iff, Bool.not_eq_false'] at b; obtain ⟨⟨⟨b1, b2⟩, b3⟩, b4⟩ := b; rw [b1, b2, b3, b4]; rfl
        have hdg : (cutB (cutB s).2.1).1.all isDg = true := by
          simp only [Bool.or_eq_false_iff, Bool.not_eq_false'] at b; exact b.2
        have hcode : atoiV (cutB (cutB s).2.1).1 = codeN (cutB (cutB s).2.1).1 := by
          obtain ⟨c7000, c7001, c7002, e⟩ := three hc3; rw [e] at hdg ⊢; simp only [List.all_cons, List.all_nil, Bool.and_true, Bool.and_eq_true] at hdg; exact atoi_code hdg.1 hdg.2.1 hdg.2.2
        unfold stP; rw [if_neg hle, hb, hcode]; generalize verB (decide ((((cutB (cutB s).2.1).1.getD 0 0).toNat : Int) > 53)) (cutB s).1 = e
        refine ifP_intro (fun f => ?_) fun f => ?_
        · have f' : e.2 = 0 := by simpa using f
          rw [if_pos f', f']
        · have f' : ¬e.2 = 0 := by simpa using f
          rw [if_neg f']
end Go.Proofs.YtnncfdlpogjlkaaGreatDoor.Ln
end
section
namespace Go.Proofs.YtnncfdlpogjlkaaGreatDoor.Ln
open Go.Ai Go.Ai.Ln Go
set_option maxRecDepth 100000
open Go.IntKind (wrap i64 u8)
open Go.Ai.AV (int str sl tup bool agg ptr)
open Go.Ai.Blk (mem grow)
open Go.Ai.Fm (code block loop)
open Go.Ai.XT (normal)
open List (length)
open Prod (fst snd)
open UInt8 (toNat)
open Tryz (prog f39 f50 f53 f56 f58 f60)
theorem t58 {v : AV} {a b : List UInt8} {n : Int} (hT : TabOk cfg (ctab [(74, holdsC), (75, strC tokenB), (91, doneC), (92, itoaC)])) (H : ∃ (s1 : List UInt8), length s1 ≤ 100000 ∧ [str a] = [str s1] ∧ ifP (!tokenB s1) (gAnd (decide (length a + 1 ≤ 9223372036854775807)) (gAnd (decide (length (a ++ [32]) + length b ≤ 9223372036854775807)) (gAnd (decide (length (a ++ [32] ++ b) + 8 ≤ 9223372036854775807)) (∃ (n2 : Int), -9223372036854775808 ≤ n2 ∧ n2 ≤ 9223372036854775807 ∧ [int i64 n] = [int i64 n2] ∧ gAnd (decide (length (a ++ [32] ++ b ++ [32, 72, 84, 84, 80, 47, 49, 46]) + length (itoaS n2) ≤ 9223372036854775807)) (∃ (mi3 : Int) (bad4 : Bool) (s5 : List UInt8), length s5 ≤ 100000 ∧ [int i64 n, bool true, str (a ++ [32] ++ b ++ [32, 72, 84, 84, 80, 47, 49, 46] ++ itoaS n2)] = [int i64 mi3, bool bad4, str s5] ∧ ifP (snd (doneB mi3 bad4 s5) == 0) (ifP (decide ((↑(length b) : Int) > 1024)) (tup [str [], int i64 3] = v) (tup [str (fst (doneB mi3 bad4 s5)), int i64 (snd (doneB mi3 bad4 s5))] = v)) (tup [str (fst (doneB mi3 bad4 s5)), int i64 (snd (doneB mi3 bad4 s5))] = v)))))) (ifP (b == []) (gAnd (decide (length a + 1 ≤ 9223372036854775807)) (gAnd (decide (length (a ++ [32]) + length b ≤ 9223372036854775807)) (gAnd (decide (length (a ++ [32] ++ b) + 8 ≤ 9223372036854775807)) (∃ (n6 : Int), -9223372036854775808 ≤ n6 ∧ n6 ≤ 9223372036854775807 ∧ [int i64 n] = [int i64 n6] ∧ gAnd (decide (length (a ++ [32] ++ b ++ [32, 72, 84, 84, 80, 47, 49, 46]) + length (itoaS n6) ≤ 9223372036854775807)) (∃ (mi7 : Int) (bad8 : Bool) (s9 : List UInt8), length s9 ≤ 100000 ∧ [int i64 n, bool true, str (a ++ [32] ++ b ++ [32, 72, 84, 84, 80, 47, 49, 46] ++ itoaS n6)] = [int i64 mi7, bool bad8, str s9] ∧ ifP (snd (doneB mi7 bad8 s9) == 0) (ifP (decide ((↑(length b) : Int) > 1024)) (tup [str [], int i64 3] = v) (tup [str (fst (doneB mi7 bad8 s9)), int i64 (snd (doneB mi7 bad8 s9))] = v)) (tup [str (fst (doneB mi7 bad8 s9)), int i64 (snd (doneB mi7 bad8 s9))] = v)))))) (∃ (l10 : List UInt8) (s11 : List UInt8), length l10 ≤ 6 ∧ length l10 % 2 = 0 ∧ length s11 ≤ 100000 ∧ [str [33, 126], str b] = [str l10, str s11] ∧ gAnd (decide (length a + 1 ≤ 9223372036854775807)) (gAnd (decide (length (a ++ [32]) + length b ≤ 9223372036854775807)) (gAnd (decide (length (a ++ [32] ++ b) + 8 ≤ 9223372036854775807)) (∃ (n12 : Int), -9223372036854775808 ≤ n12 ∧ n12 ≤ 9223372036854775807 ∧ [int i64 n] = [int i64 n12] ∧ gAnd (decide (length (a ++ [32] ++ b ++ [32, 72, 84, 84, 80, 47, 49, 46]) + length (itoaS n12) ≤ 9223372036854775807)) (∃ (mi13 : Int) (bad14 : Bool) (s15 : List UInt8), length s15 ≤ 100000 ∧ [int i64 n, bool !List.all s11 (inL l10), str (a ++ [32] ++ b ++ [32, 72, 84, 84, 80, 47, 49, 46] ++ itoaS n12)] = [int i64 mi13, bool bad14, str s15] ∧ ifP (snd (doneB mi13 bad14 s15) == 0) (ifP (decide ((↑(length b) : Int) > 1024)) (tup [str [], int i64 3] = v) (tup [str (fst (doneB mi13 bad14 s15)), int i64 (snd (doneB mi13 bad14 s15))] = v)) (tup [str (fst (doneB mi13 bad14 s15)), int i64 (snd (doneB mi13 bad14 s15))] = v)))))))) : ToEnd cfg 58 (bodyOf f58) (RetIs prog f58 v) ([.code []]) .normal ([(0, true, .str a), (1, true, .str b), (2, true, .int .i64 n)]) ([]) := by
  exact unr_ok (pl := ⟨[], []⟩) hT 100000 _ _ _ _ (unr_use H (by kernel_rfl))
theorem t53 {v : AV} {st n : Int} {w : List UInt8} (hT : TabOk cfg (ctab [(74, holdsC), (91, doneC), (92, itoaC)])) (H : ifP (decide (st < 100)) (∃ (n1 : Int), -9223372036854775808 ≤ n1 ∧ n1 ≤ 9223372036854775807 ∧ [int i64 n] = [int i64 n1] ∧ gAnd (decide (7 + length (itoaS n1) ≤ 9223372036854775807)) (gAnd (decide (length (72 :: 84 :: 84 :: 80 :: 47 :: 49 :: 46 :: List.append [] (itoaS n1)) + 1 ≤ 9223372036854775807)) (∃ (n2 : Int), -9223372036854775808 ≤ n2 ∧ n2 ≤ 9223372036854775807 ∧ [int i64 st] = [int i64 n2] ∧ gAnd (decide (length (72 :: 84 :: 84 :: 80 :: 47 :: 49 :: 46 :: List.append (List.append [] (itoaS n1)) [32]) + length (itoaS n2) ≤ 9223372036854775807)) (gAnd (decide (length (72 :: 84 :: 84 :: 80 :: 47 :: 49 :: 46 :: List.append (List.append (List.append [] (itoaS n1)) [32]) (itoaS n2)) + 1 ≤ 9223372036854775807)) (gAnd (decide (length (72 :: 84 :: 84 :: 80 :: 47 :: 49 :: 46 :: List.append (List.append (List.append (List.append [] (itoaS n1)) [32]) (itoaS n2)) [32]) + length w ≤ 9223372036854775807)) (∃ (mi3 : Int) (bad4 : Bool) (s5 : List UInt8), length s5 ≤ 100000 ∧ [int i64 n, bool true, str (72 :: 84 :: 84 :: 80 :: 47 :: 49 :: 46 :: List.append (List.append (List.append (List.append (List.append [] (itoaS n1)) [32]) (itoaS n2)) [32]) w)] = [int i64 mi3, bool bad4, str s5] ∧ tup [str (fst (doneB mi3 bad4 s5)), int i64 (snd (doneB mi3 bad4 s5))] = v)))))) (ifP (decide (st > 599)) (∃ (n6 : Int), -9223372036854775808 ≤ n6 ∧ n6 ≤ 9223372036854775807 ∧ [int i64 n] = [int i64 n6] ∧ gAnd (decide (7 + length (itoaS n6) ≤ 9223372036854775807)) (gAnd (decide (length (72 :: 84 :: 84 :: 80 :: 47 :: 49 :: 46 :: List.append [] (itoaS n6)) + 1 ≤ 9223372036854775807)) (∃ (n7 : Int), -9223372036854775808 ≤ n7 ∧ n7 ≤ 9223372036854775807 ∧ [int i64 st] = [int i64 n7] ∧ gAnd (decide (length (72 :: 84 :: 84 :: 80 :: 47 :: 49 :: 46 :: List.append (List.append [] (itoaS n6)) [32]) + length (itoaS n7) ≤ 9223372036854775807)) (gAnd (decide (length (72 :: 84 :: 84 :: 80 :: 47 :: 49 :: 46 :: List.append (List.append (List.append [] (itoaS n6)) [32]) (itoaS n7)) + 1 ≤ 9223372036854775807)) (gAnd (decide (length (72 :: 84 :: 84 :: 80 :: 47 :: 49 :: 46 :: List.append (List.append (List.append (List.append [] (itoaS n6)) [32]) (itoaS n7)) [32]) + length w ≤ 9223372036854775807)) (∃ (mi8 : Int) (bad9 : Bool) (s10 : List UInt8), length s10 ≤ 100000 ∧ [int i64 n, bool true, str (72 :: 84 :: 84 :: 80 :: 47 :: 49 :: 46 :: List.append (List.append (List.append (List.append (List.append [] (itoaS n6)) [32]) (itoaS n7)) [32]) w)] = [int i64 mi8, bool bad9, str s10] ∧ tup [str (fst (doneB mi8 bad9 s10)), int i64 (snd (doneB mi8 bad9 s10))] = v)))))) (∃ (l11 : List UInt8) (s12 : List UInt8), length l11 ≤ 6 ∧ length l11 % 2 = 0 ∧ length s12 ≤ 100000 ∧ [str [9, 9, 32, 126, 128, 255], str w] = [str l11, str s12] ∧ ∃ (n13 : Int), -9223372036854775808 ≤ n13 ∧ n13 ≤ 9223372036854775807 ∧ [int i64 n] = [int i64 n13] ∧ gAnd (decide (7 + length (itoaS n13) ≤ 9223372036854775807)) (gAnd (decide (length (72 :: 84 :: 84 :: 80 :: 47 :: 49 :: 46 :: List.append [] (itoaS n13)) + 1 ≤ 9223372036854775807)) (∃ (n14 : Int), -9223372036854775808 ≤ n14 ∧ n14 ≤ 9223372036854775807 ∧ [int i64 st] = [int i64 n14] ∧ gAnd (decide (length (72 :: 84 :: 84 :: 80 :: 47 :: 49 :: 46 :: List.append (List.append [] (itoaS n13)) [32]) + length (itoaS n14) ≤ 9223372036854775807)) (gAnd (decide (length (72 :: 84 :: 84 :: 80 :: 47 :: 49 :: 46 :: List.append (List.append (List.append [] (itoaS n13)) [32]) (itoaS n14)) + 1 ≤ 9223372036854775807)) (gAnd (decide (length (72 :: 84 :: 84 :: 80 :: 47 :: 49 :: 46 :: List.append (List.append (List.append (List.append [] (itoaS n13)) [32]) (itoaS n14)) [32]) + length w ≤ 9223372036854775807)) (∃ (mi15 : Int) (bad16 : Bool) (s17 : List UInt8), length s17 ≤ 100000 ∧ [int i64 n, bool !List.all s12 (inL l11), str (72 :: 84 :: 84 :: 80 :: 47 :: 49 :: 46 :: List.append (List.append (List.append (List.append (List.append [] (itoaS n13)) [32]) (itoaS n14)) [32]) w)] = [int i64 mi15, bool bad16, str s17] ∧ tup [str (fst (doneB mi15 bad16 s17)), int i64 (snd (doneB mi15 bad16 s17))] = v)))))))) : ToEnd cfg 53 (bodyOf f53) (RetIs prog f53 v) ([.code []]) .normal ([(0, true, .int .i64 st), (1, true, .str w), (2, true, .int .i64 n)]) ([]) := by
  exact unr_ok (pl := ⟨[], []⟩) hT 100000 _ _ _ _ (unr_use H (by kernel_rfl))
theorem t60 {v : AV} {a b : List UInt8} {n : Int} (hT : TabOk cfg (ctab [(81, strC tokenB), (82, strC (fun s => s.all targetB && !s.isEmpty)), (95, versC)])) (H : ∃ (s1 : List UInt8), length s1 ≤ 100000 ∧ [str a] = [str s1] ∧ ifP (!tokenB s1) (tup [str [], int i64 4] = v) (∃ (s2 : List UInt8), length s2 ≤ 100000 ∧ [str b] = [str s2] ∧ ifP (!(List.all s2 targetB && !List.isEmpty s2)) (tup [str [], int i64 4] = v) (ifP (n != 0) (ifP (n != 1) (tup [str [], int i64 4] = v) (gAnd (decide (length a + 1 ≤ 9223372036854775807)) (gAnd (decide (length (a ++ [32]) + length b ≤ 9223372036854775807)) (gAnd (decide (length (a ++ [32] ++ b) + 1 ≤ 9223372036854775807)) (∃ (n3 : Int), [int i64 n] = [int i64 n3] ∧ gAnd (decide (length (a ++ [32] ++ b ++ [32]) + length (verM n3) ≤ 9223372036854775807)) (ifP (decide ((↑(length b) : Int) > 1024)) (tup [str [], int i64 3] = v) (ifP (decide ((↑(length (a ++ [32] ++ b ++ [32] ++ verM n3)) : Int) > 2048)) (tup [str [], int i64 3] = v) (tup [str (a ++ [32] ++ b ++ [32] ++ verM n3), int i64 0] = v)))))))) (gAnd (decide (length a + 1 ≤ 9223372036854775807)) (gAnd (decide (length (a ++ [32]) + length b ≤ 9223372036854775807)) (gAnd (decide (length (a ++ [32] ++ b) + 1 ≤ 9223372036854775807)) (∃ (n4 : Int), [int i64 n] = [int i64 n4] ∧ gAnd (decide (length (a ++ [32] ++ b ++ [32]) + length (verM n4) ≤ 9223372036854775807)) (ifP (decide ((↑(length b) : Int) > 1024)) (tup [str [], int i64 3] = v) (ifP (decide ((↑(length (a ++ [32] ++ b ++ [32] ++ verM n4)) : Int) > 2048)) (tup [str [], int i64 3] = v) (tup [str (a ++ [32] ++ b ++ [32] ++ verM n4), int i64 0] = v)))))))))) : ToEnd cfg 60 (bodyOf f60) (RetIs prog f60 v) ([.code []]) .normal ([(0, true, .str a), (1, true, .str b), (2, true, .int .i64 n)]) ([]) := by
  exact unr_ok (pl := ⟨[], []⟩) hT 100000 _ _ _ _ (unr_use H (by kernel_rfl))
theorem t56 {v : AV} {st n : Int} {w : List UInt8} (hT : TabOk cfg (ctab [(90, strC fun s => s.all reasonB), (95, versC)])) (H : ifP (decide (st < 100)) (tup [str [], int i64 4] = v) (ifP (decide (st > 599)) (tup [str [], int i64 4] = v) (∃ (s1 : List UInt8), length s1 ≤ 100000 ∧ [str w] = [str s1] ∧ ifP (!List.all s1 reasonB) (tup [str [], int i64 4] = v) (ifP (n != 0) (ifP (n != 1) (tup [str [], int i64 4] = v) (gAnd (rowsB [[int u8 (wrap u8 (wrap i64 (48 + wrap i64 (Int.tdiv st 100))))], [int u8 (wrap u8 (wrap i64 (48 + Int.tmod (wrap i64 (Int.tdiv st 10)) 10)))], [int u8 (wrap u8 (wrap i64 (48 + Int.tmod st 10)))]]) (∃ (n2 : Int), [int i64 n] = [int i64 n2] ∧ gAnd (decide (length (verM n2) + 1 ≤ 9223372036854775807)) (gAnd (decide (length (verM n2 ++ [32]) + 3 ≤ 9223372036854775807)) (gAnd (decide (length (verM n2 ++ [32] ++ [rowV [int u8 (wrap u8 (wrap i64 (48 + wrap i64 (Int.tdiv st 100))))], rowV [int u8 (wrap u8 (wrap i64 (48 + Int.tmod (wrap i64 (Int.tdiv st 10)) 10)))], rowV [int u8 (wrap u8 (wrap i64 (48 + Int.tmod st 10)))]]) + 1 ≤ 9223372036854775807)) (gAnd (decide (length (verM n2 ++ [32] ++ [rowV [int u8 (wrap u8 (wrap i64 (48 + wrap i64 (Int.tdiv st 100))))], rowV [int u8 (wrap u8 (wrap i64 (48 + Int.tmod (wrap i64 (Int.tdiv st 10)) 10)))], rowV [int u8 (wrap u8 (wrap i64 (48 + Int.tmod st 10)))]] ++ [32]) + length w ≤ 9223372036854775807)) (ifP (decide ((↑(length (verM n2 ++ [32] ++ [rowV [int u8 (wrap u8 (wrap i64 (48 + wrap i64 (Int.tdiv st 100))))], rowV [int u8 (wrap u8 (wrap i64 (48 + Int.tmod (wrap i64 (Int.tdiv st 10)) 10)))], rowV [int u8 (wrap u8 (wrap i64 (48 + Int.tmod st 10)))]] ++ [32] ++ w)) : Int) > 2048)) (tup [str [], int i64 3] = v) (tup [str (verM n2 ++ [32] ++ [rowV [int u8 (wrap u8 (wrap i64 (48 + wrap i64 (Int.tdiv st 100))))], rowV [int u8 (wrap u8 (wrap i64 (48 + Int.tmod (wrap i64 (Int.tdiv st 10)) 10)))], rowV [int u8 (wrap u8 (wrap i64 (48 + Int.tmod st 10)))]] ++ [32] ++ w), int i64 0] = v)))))))) (gAnd (rowsB [[int u8 (wrap u8 (wrap i64 (48 + wrap i64 (Int.tdiv st 100))))], [int u8 (wrap u8 (wrap i64 (48 + Int.tmod (wrap i64 (Int.tdiv st 10)) 10)))], [int u8 (wrap u8 (wrap i64 (48 + Int.tmod st 10)))]]) (∃ (n3 : Int), [int i64 n] = [int i64 n3] ∧ gAnd (decide (length (verM n3) + 1 ≤ 9223372036854775807)) (gAnd (decide (length (verM n3 ++ [32]) + 3 ≤ 9223372036854775807)) (gAnd (decide (length (verM n3 ++ [32] ++ [rowV [int u8 (wrap u8 (wrap i64 (48 + wrap i64 (Int.tdiv st 100))))], rowV [int u8 (wrap u8 (wrap i64 (48 + Int.tmod (wrap i64 (Int.tdiv st 10)) 10)))], rowV [int u8 (wrap u8 (wrap i64 (48 + Int.tmod st 10)))]]) + 1 ≤ 9223372036854775807)) (gAnd (decide (length (verM n3 ++ [32] ++ [rowV [int u8 (wrap u8 (wrap i64 (48 + wrap i64 (Int.tdiv st 100))))], rowV [int u8 (wrap u8 (wrap i64 (48 + Int.tmod (wrap i64 (Int.tdiv st 10)) 10)))], rowV [int u8 (wrap u8 (wrap i64 (48 + Int.tmod st 10)))]] ++ [32]) + length w ≤ 9223372036854775807)) (ifP (decide ((↑(length (verM n3 ++ [32] ++ [rowV [int u8 (wrap u8 (wrap i64 (48 + wrap i64 (Int.tdiv st 100))))], rowV [int u8 (wrap u8 (wrap i64 (48 + Int.tmod (wrap i64 (Int.tdiv st 10)) 10)))], rowV [int u8 (wrap u8 (wrap i64 (48 + Int.tmod st 10)))]] ++ [32] ++ w)) : Int) > 2048)) (tup [str [], int i64 3] = v) (tup [str (verM n3 ++ [32] ++ [rowV [int u8 (wrap u8 (wrap i64 (48 + wrap i64 (Int.tdiv st 100))))], rowV [int u8 (wrap u8 (wrap i64 (48 + Int.tmod (wrap i64 (Int.tdiv st 10)) 10)))], rowV [int u8 (wrap u8 (wrap i64 (48 + Int.tmod st 10)))]] ++ [32] ++ w), int i64 0] = v))))))))))) : ToEnd cfg 56 (bodyOf f56) (RetIs prog f56 v) ([.code []]) .normal ([(0, true, .int .i64 st), (1, true, .str w), (2, true, .int .i64 n)]) ([]) := by
  exact unr_ok (pl := ⟨[], []⟩) hT 100000 _ _ _ _ (unr_use H (by kernel_rfl))
theorem t39a {v : AV} {s : List UInt8} (hT : TabOk cfg (ctab [(80, strC isVer), (81, strC tokenB), (82, strC (fun s => s.all targetB && !s.isEmpty)), (83, minorC)])) (H : ifP (decide ((↑(length s) : Int) > 2048)) (tup [str [], str [], int i64 0, int i64 3] = v) (ifP (decide (wrap i64 ((↑(length s) : Int) - 9) < 0)) (tup [str [], str [], int i64 0, int i64 4] = v) (gAnd (inR (wrap i64 ((↑(length s) : Int) - 9)) (length s)) (ifP ((↑(toNat (List.getD s (Int.toNat (wrap i64 ((↑(length s) : Int) - 9))) 0)) : Int) != 32) (tup [str [], str [], int i64 0, int i64 4] = v) (gAnd (cutOb (length s) (some (wrap i64 (wrap i64 ((↑(length s) : Int) - 9) + 1))) none) (∃ (s1 : List UInt8), length s1 ≤ 100000 ∧ [str (cutL s (some (wrap i64 (wrap i64 ((↑(length s) : Int) - 9) + 1))) none)] = [str s1] ∧ ifP (!isVer s1) (tup [str [], str [], int i64 0, int i64 4] = v) (ToEnd cfg 39 (bodyOf f39) (RetIs prog f39 v) [code [0, 1, 0, 1, 1, 1, 1], block 0, code [1, 1, 1, 1, 1]] normal [(0, true, str s), (6, true, int i64 (wrap i64 ((↑(length s) : Int) - 9))), (7, true, int i64 0)] []))))))) : ToEnd cfg 39 (bodyOf f39) (RetIs prog f39 v) ([.code []]) .normal ([(0, true, .str s)]) ([]) := by
  exact unr_ok (pl := ⟨[[0, 1, 0, 1, 1, 1, 1]], []⟩) hT 100000 _ _ _ _ (unr_use H (by kernel_rfl))
theorem t50 {v : AV} {s : List UInt8} (hT : TabOk cfg (ctab [(80, strC isVer), (83, minorC), (89, byteC isDg), (90, strC fun s => s.all reasonB)])) (H : ifP (decide ((↑(length s) : Int) > 2048)) (tup [int i64 0, str [], int i64 0, int i64 3] = v) (ifP (decide ((↑(length s) : Int) < 13)) (tup [int i64 0, str [], int i64 0, int i64 4] = v) (gAnd (cutOb (length s) none (some 8)) (∃ (s1 : List UInt8), length s1 ≤ 100000 ∧ [str (cutL s none (some 8))] = [str s1] ∧ ifP (!isVer s1) (tup [int i64 0, str [], int i64 0, int i64 4] = v) (gAnd (inR 8 (length s)) (ifP ((↑(toNat (List.getD s 8 0)) : Int) != 32) (tup [int i64 0, str [], int i64 0, int i64 4] = v) (gAnd (inR 9 (length s)) (ifP (decide ((↑(toNat (List.getD s 9 0)) : Int) < 49)) (tup [int i64 0, str [], int i64 0, int i64 4] = v) (gAnd (inR 9 (length s)) (ifP (decide ((↑(toNat (List.getD s 9 0)) : Int) > 53)) (tup [int i64 0, str [], int i64 0, int i64 4] = v) (gAnd (inR 10 (length s)) (∃ (c2 : UInt8), [int u8 (↑(toNat (List.getD s 10 0)) : Int)] = [int u8 (↑(toNat c2) : Int)] ∧ ifP (!isDg c2) (tup [int i64 0, str [], int i64 0, int i64 4] = v) (gAnd (inR 11 (length s)) (∃ (c3 : UInt8), [int u8 (↑(toNat (List.getD s 11 0)) : Int)] = [int u8 (↑(toNat c3) : Int)] ∧ ifP (!isDg c3) (tup [int i64 0, str [], int i64 0, int i64 4] = v) (gAnd (inR 12 (length s)) (ifP ((↑(toNat (List.getD s 12 0)) : Int) != 32) (tup [int i64 0, str [], int i64 0, int i64 4] = v) (gAnd (cutOb (length s) (some 13) none) (∃ (s4 : List UInt8), length s4 ≤ 100000 ∧ [str (cutL s (some 13) none)] = [str s4] ∧ ifP (!List.all s4 reasonB) (tup [int i64 0, str [], int i64 0, int i64 4] = v) (gAnd (inR 5 (length s)) (ifP ((↑(toNat (List.getD s 5 0)) : Int) != 49) (tup [int i64 0, str [], int i64 0, int i64 9] = v) (gAnd (inR 9 (length s)) (gAnd (inR 10 (length s)) (gAnd (inR 11 (length s)) (gAnd (cutOb (length s) (some 13) none) (gAnd (cutOb (length s) none (some 8)) (∃ (s5 : List UInt8), 8 ≤ length s5 ∧ [str (cutL s none (some 8))] = [str s5] ∧ tup [int i64 (wrap i64 (wrap i64 (wrap i64 (100 * wrap i64 (wrap u8 ((↑(toNat (List.getD s 9 0)) : Int) - 48))) + wrap i64 (10 * wrap i64 (wrap u8 ((↑(toNat (List.getD s 10 0)) : Int) - 48)))) + wrap i64 (wrap u8 ((↑(toNat (List.getD s 11 0)) : Int) - 48)))), str (cutL s (some 13) none), int i64 (if List.getD s5 7 0 = 48 then 0 else 1), int i64 0] = v)))))))))))))))))))))))))) : ToEnd cfg 50 (bodyOf f50) (RetIs prog f50 v) ([.code []]) .normal ([(0, true, .str s)]) ([]) := by
  exact unr_ok (pl := ⟨[], []⟩) hT 100000 _ _ _ _ (unr_use H (by kernel_rfl))
theorem t39b {v : AV} {s : List UInt8} {s0 : List UInt8} {i6 : Int} {i7 : Int} (hT : TabOk cfg (ctab [(80, strC isVer), (81, strC tokenB), (82, strC (fun s => s.all targetB && !s.isEmpty)), (83, minorC)])) (H : ifP (decide (i7 < i6)) (gAnd (inR i7 (length s0)) (ifP ((↑(toNat (List.getD s0 (Int.toNat i7) 0)) : Int) != 32) (ToEnd cfg 39 (bodyOf f39) (RetIs prog f39 v) [code [0, 1, 0, 1, 1, 1, 1], block 0, code [1, 1, 1, 1, 1]] normal [(0, true, str s0), (6, true, int i64 i6), (7, true, int i64 (wrap i64 (i7 + 1)))] []) (gAnd (cutOb (length s0) none (some i7)) (∃ (s1 : List UInt8), length s1 ≤ 100000 ∧ [str (cutL s0 none (some i7))] = [str s1] ∧ ifP (!tokenB s1) (ToEnd cfg 39 (bodyOf f39) (RetIs prog f39 v) [code [0, 1, 0, 1, 1, 1, 1], block 0, code [1, 1, 1, 1, 1]] normal [(0, true, str s0), (6, true, int i64 i6), (7, true, int i64 (wrap i64 (i7 + 1)))] []) (gAnd (cutOb (length s0) (some (wrap i64 (i7 + 1))) (some i6)) (∃ (s2 : List UInt8), length s2 ≤ 100000 ∧ [str (cutL s0 (some (wrap i64 (i7 + 1))) (some i6))] = [str s2] ∧ ifP (!(List.all s2 targetB && !List.isEmpty s2)) (ToEnd cfg 39 (bodyOf f39) (RetIs prog f39 v) [code [0, 1, 0, 1, 1, 1, 1], block 0, code [1, 1, 1, 1, 1]] normal [(0, true, str s0), (6, true, int i64 i6), (7, true, int i64 (wrap i64 (i7 + 1)))] []) (gAnd (inR (wrap i64 (i6 + 6)) (length s0)) (ifP ((↑(toNat (List.getD s0 (Int.toNat (wrap i64 (i6 + 6))) 0)) : Int) != 49) (tup [str [], str [], int i64 0, int i64 9] = v) (ifP (decide (wrap i64 (wrap i64 (i6 - i7) - 1) > 1024)) (tup [str [], str [], int i64 0, int i64 3] = v) (gAnd (cutOb (length s0) none (some i7)) (gAnd (cutOb (length s0) (some (wrap i64 (i7 + 1))) (some i6)) (gAnd (cutOb (length s0) (some (wrap i64 (i6 + 1))) none) (∃ (s3 : List UInt8), 8 ≤ length s3 ∧ [str (cutL s0 (some (wrap i64 (i6 + 1))) none)] = [str s3] ∧ tup [str (cutL s0 none (some i7)), str (cutL s0 (some (wrap i64 (i7 + 1))) (some i6)), int i64 (if List.getD s3 7 0 = 48 then 0 else 1), int i64 0] = v))))))))))))) (tup [str [], str [], int i64 0, int i64 4] = v)) : ToEnd cfg 39 (bodyOf f39) (RetIs prog f39 v) ([.code [0, 1, 0, 1, 1, 1, 1], block 0, code [1, 1, 1, 1, 1]]) .normal ([(0, true, str s0), (6, true, int i64 i6), (7, true, int i64 i7)]) ([]) := by
  exact ends_round (pl := ⟨[[0, 1, 0, 1, 1, 1, 1]], []⟩) hT 100000 (by kernel_rfl) (unr_use H (by kernel_rfl))
end Go.Proofs.YtnncfdlpogjlkaaGreatDoor.Ln
end
section
namespace Go.Proofs.YtnncfdlpogjlkaaGreatDoor.Ln
open Go.Ai Go.Ai.Ln Go
set_option maxRecDepth 100000
theorem pf58 : pureFn cfg 58 Tryz.f58 := (by refine ⟨?_, ?_, ?_, ?_, ?_, ?_⟩ <;> kernel_rfl)
theorem pf60 : pureFn cfg 60 Tryz.f60 := (by refine ⟨?_, ?_, ?_, ?_, ?_, ?_⟩ <;> kernel_rfl)
theorem pf53 : pureFn cfg 53 Tryz.f53 := (by refine ⟨?_, ?_, ?_, ?_, ?_, ?_⟩ <;> kernel_rfl)
theorem pf56 : pureFn cfg 56 Tryz.f56 := (by refine ⟨?_, ?_, ?_, ?_, ?_, ?_⟩ <;> kernel_rfl)
theorem pf39 : pureFn cfg 39 Tryz.f39 := (by refine ⟨?_, ?_, ?_, ?_, ?_, ?_⟩ <;> kernel_rfl)
theorem pf50 : pureFn cfg 50 Tryz.f50 := (by refine ⟨?_, ?_, ?_, ?_, ?_, ?_⟩ <;> kernel_rfl)
theorem okL {x : Nat} (h : x ≤ 9223372036854775807) : decide (x ≤ 9223372036854775807) = true := decide_eq_true h
def reqT (a b : List UInt8) (n : Int) : List UInt8 := a ++ [32] ++ b ++ [32, 72, 84, 84, 80, 47, 49, 46] ++ itoaS n
theorem reqT_eq {a b : List UInt8} {n : Int} (h0 : 0 ≤ n) (h1 : n ≤ 1) : reqT a b n = reqS a b n := by
  unfold reqT reqS; rw [itoa_mi h0 h1]; simp [verS]
theorem reqT_len (a b : List UInt8) (n : Int) : (reqT a b n).length ≤ a.length + b.length + 40 := by
  have := itoaS_len n; unfold reqT; simp; omega
theorem put_done {a b : List UInt8} {n : Int} {bad : Bool} (hb : bad = badReq a b) :
    ifP ((doneB n bad (reqT a b n)).2 == 0) (ifP (decide ((b.length : Int) > 1024)) (AV.tup [AV.str [], AV.int .i64 3] = AV.tup [AV.str (putReq a b n).1, AV.int .i64 (putReq a b n).2]) (AV.tup [AV.str (doneB n bad (reqT a b n)).1, AV.int .i64 (doneB n bad (reqT a b n)).2] = AV.tup [AV.str (putReq a b n).1, AV.int .i64 (putReq a b n).2]))
      (AV.tup [AV.str (doneB n bad (reqT a b n)).1, AV.int .i64 (doneB n bad (reqT a b n)).2] = AV.tup [AV.str (putReq a b n).1, AV.int .i64 (putReq a b n).2]) := by
  subst hb; unfold doneB putReq
  by_cases h : (badReq a b || decide (n < 0) || decide (1 < n)) = true
  · rw [if_pos h, if_pos h]
    exact ifP_intro (fun k => by cases k) fun _ => rfl
  · rw [if_neg h, if_neg h]; obtain ⟨b1, b2, b3⟩ := no_bad (Bool.eq_false_iff.2 h); simp only [decide_eq_false_iff_not] at b2 b3
    rw [reqT_eq (by omega) (by omega)]
    by_cases hl : 2048 < (reqS a b n).length
    · rw [if_pos hl, if_pos (.inr hl)]
      exact ifP_intro (fun k => by cases k) fun _ => rfl
    · rw [if_neg hl]
      refine ifP_intro (fun _ => ifP_intro (fun k => ?_) fun k => ?_) fun k => by cases k
      · simp only [decide_eq_true_eq] at k
        rw [if_pos (.inl (by omega))]
      · simp only [decide_eq_false_iff_not] at k
        rw [if_neg (by omega)]
theorem c58 : COk cfg 58 putReqC := by
  have hT := ctab_ok (ctab_cons c74 (ctab_cons c75 (ctab_cons c91 (ctab_cons c92 ctab_nil))))
  refine cok_pure pf58 fun vs h K ht => ?_
  obtain ⟨a, b, n, ha, hb, ⟨hn0, hn1⟩, rfl, hk⟩ := ht; have hi := itoaS_len n; have hlen := reqT_len a b n
  refine ⟨_, hk, t58 hT ⟨a, by omega, rfl, ifP_intro (fun k => ?_) fun k => ifP_intro (fun m => ?_) fun m => ⟨[33, 126], b, by decide, by decide, by omega, rfl, ?_⟩⟩⟩
  all_goals
    refine gAnd_intro (okL (by omega)) (gAnd_intro (okL (by simp; omega)) (gAnd_intro (okL (by simp; omega)) ⟨n, hn0, hn1, rfl, gAnd_intro (okL (by simp; omega)) ⟨n, _, reqT a b n, by omega, rfl, put_done ?_⟩⟩))
  · have : tokenB a = false := by simpa using k
    simp [badReq, this]
  · have : b = [] := by simpa using m
    simp [badReq, this]
  · have h1 : tokenB a = true := by simpa using k
    have h2 : b.isEmpty = false := by rw [emp_eq]; exact m
    rw [all_target]; simp [badReq, h1, h2]
theorem c60 : COk cfg 60 putReqC := by
  have hT := ctab_ok (ctab_cons c81 (ctab_cons c82 (ctab_cons c95 ctab_nil)))
  refine cok_pure pf60 fun vs h K ht => ?_
  obtain ⟨a, b, n, ha, hb, ⟨hn0, hn1⟩, rfl, hk⟩ := ht
  have bad : badReq a b = true → AV.tup [AV.str [], AV.int .i64 4] = AV.tup [AV.str (putReq a b n).1, AV.int .i64 (putReq a b n).2] := fun hb => by
    unfold putReq
    rw [hb, if_pos (by simp)]
  have fin : badReq a b = false → n = 0 ∨ n = 1 → ifP (decide ((b.length : Int) > 1024)) (AV.tup [AV.str [], AV.int .i64 3] = AV.tup [AV.str (putReq a b n).1, AV.int .i64 (putReq a b n).2])
      (ifP (decide (((a ++ [32] ++ b ++ [32] ++ verM n).length : Int) > 2048)) (AV.tup [AV.str [], AV.int .i64 3] = AV.tup [AV.str (putReq a b n).1, AV.int .i64 (putReq a b n).2])
        (AV.tup [AV.str (a ++ [32] ++ b ++ [32] ++ verM n), AV.int .i64 0] = AV.tup [AV.str (putReq a b n).1, AV.int .i64 (putReq a b n).2])) := fun hb hn => by
    have e : (a ++ [32] ++ b ++ [32] ++ verM n) = reqS a b n := by
      unfold reqS verM
      rcases hn with rfl | rfl <;> simp [verS] <;> rfl
    rw [e]; unfold putReq
    rw [hb, decide_eq_false (p := n < 0) (by omega), decide_eq_false (p := 1 < n) (by omega), if_neg (by simp)]
    refine ifP_intro (fun k => ?_) fun k => ifP_intro (fun m => ?_) fun m => ?_
    · simp only [decide_eq_true_eq] at k
      rw [if_pos (.inl (by omega))]
    · simp only [decide_eq_true_eq] at m
      rw [if_pos (.inr (by omega))]
    · simp only [decide_eq_false_iff_not] at k m
      rw [if_neg (by omega)]
  have hver : (verM n).length = 8 := by unfold verM; split <;> rfl
  refine ⟨_, hk, t60 hT ⟨a, by omega, rfl, ifP_intro (fun k => bad ?_) fun k => ⟨b, by omega, rfl, ifP_intro (fun m => bad ?_) fun m => ifP_intro (fun p => ifP_intro (fun q => ?_) fun q => ?_) fun p => ?_⟩⟩⟩
  · have : tokenB a = false := by simpa using k
    simp [badReq, this]
  · have : (b.all targetB && !b.isEmpty) = false := Eq.mp (Bool.not_eq_true' _) m; unfold badReq
    cases h1 : b.all targetB <;> cases h2 : b.isEmpty <;> simp_all
  · unfold putReq
    have h1 : ¬n = 0 := by simpa using p
    have h2 : ¬n = 1 := by simpa using q
    rw [if_pos]; simp only [Bool.or_eq_true, decide_eq_true_eq]; omega
  all_goals
    have hbad : badReq a b = false := by
      have h1 : tokenB a = true := by simpa using k
      have h2 : (b.all targetB && !b.isEmpty) = true := Eq.mp (Bool.not_eq_false' _) m; simp only [Bool.and_eq_true, Bool.not_eq_true'] at h2; simp [badReq, h1, h2.1, h2.2]
    refine gAnd_intro (okL (by omega)) (gAnd_intro (okL (by simp; omega)) (gAnd_intro (okL (by simp; omega)) ⟨n, rfl, gAnd_intro (okL (by rw [hver]; simp; omega)) (fin hbad ?_)⟩))
  · exact .inr (by simpa using q)
  · exact .inl (by simpa using p)
def stT (st : Int) (w : List UInt8) (n : Int) : List UInt8 := [72, 84, 84, 80, 47, 49, 46] ++ itoaS n ++ [32] ++ itoaS st ++ [32] ++ w
theorem stT_eq {st : Int} {w : List UInt8} {n : Int} (h0 : 0 ≤ n) (h1 : n ≤ 1) (h2 : 100 ≤ st) (h3 : st ≤ 599) : stT st w n = stS st w n := by
  unfold stT stS; rw [itoa_mi h0 h1, itoa_st h2 h3]; simp [verS]
theorem stT_len (st : Int) (w : List UInt8) (n : Int) : (stT st w n).length ≤ w.length + 60 := by
  have := itoaS_len n; have := itoaS_len st; unfold stT; simp; omega
theorem putst_done {st : Int} {w : List UInt8} {n : Int} {bad : Bool} (hb : bad = badSt st w) :
    AV.tup [AV.str (doneB n bad (stT st w n)).1, AV.int .i64 (doneB n bad (stT st w n)).2] = AV.tup [AV.str (putSt st w n).1, AV.int .i64 (putSt st w n).2] := by
  subst hb
  have : doneB n (badSt st w) (stT st w n) = putSt st w n := by
    unfold doneB putSt
    by_cases h : (badSt st w || decide (n < 0) || decide (1 < n)) = true
    · rw [if_pos h, if_pos h]
    · rw [if_neg h, if_neg h]; obtain ⟨b1, b2, b3⟩ := no_bad (Bool.eq_false_iff.2 h); simp only [decide_eq_false_iff_not] at b2 b3; simp only [badSt, Bool.or_eq_false_iff, decide_eq_false_iff_not] at b1
      rw [stT_eq (by omega) (by omega) (by omega) (by omega)]
  rw [this]
theorem c53 : COk cfg 53 putStC := by
  have hT := ctab_ok (ctab_cons c74 (ctab_cons c91 (ctab_cons c92 ctab_nil)))
  refine cok_pure pf53 fun vs h K ht => ?_
  obtain ⟨st, w, n, hw, ⟨hs0, hs1⟩, ⟨hn0, hn1⟩, rfl, hk⟩ := ht; have hi := itoaS_len n; have hi2 := itoaS_len st; have hlen := stT_len st w n
  refine ⟨_, hk, t53 hT (ifP_intro (fun k => ?_) fun k => ifP_intro (fun m => ?_) fun m => ⟨[9, 9, 32, 126, 128, 255], w, by decide, by decide, by omega, rfl, ?_⟩)⟩
  all_goals
    refine ⟨n, hn0, hn1, rfl, gAnd_intro (okL (by omega)) (gAnd_intro (okL (x := ([72, 84, 84, 80, 47, 49, 46] ++ itoaS n).length + 1) (by simp; omega)) ⟨st, hs0, hs1, rfl, gAnd_intro (okL (x := ([72, 84, 84, 80, 47, 49, 46] ++ itoaS n ++ [32]).length + (itoaS st).length) (by simp; omega))
      (gAnd_intro (okL (x := ([72, 84, 84, 80, 47, 49, 46] ++ itoaS n ++ [32] ++ itoaS st).length + 1) (by simp; omega)) (gAnd_intro (okL (x := ([72, 84, 84, 80, 47, 49, 46] ++ itoaS n ++ [32] ++ itoaS st ++ [32]).length + w.length) (by simp; omega)) ⟨n, _, stT st w n, by omega, rfl, putst_done ?_⟩))⟩)⟩
  · simp only [decide_eq_true_eq] at k; unfold badSt; rw [decide_eq_true k]; rfl
  · simp only [decide_eq_true_eq] at m; unfold badSt
    rw [decide_eq_true (p := 599 < st) (by omega)]; simp
  · simp only [decide_eq_false_iff_not] at k m; unfold badSt
    rw [all_reason, decide_eq_false k, decide_eq_false (p := 599 < st) (by omega)]; rfl
end Go.Proofs.YtnncfdlpogjlkaaGreatDoor.Ln
end
section
namespace Go.Proofs.YtnncfdlpogjlkaaGreatDoor.Ln
open Go.Ai Go.Ai.Ln Go
set_option maxRecDepth 100000
theorem tdivN {a : Int} {b : Nat} (h : 0 ≤ a) : Int.tdiv a (b : Int) = ((a.toNat / b : Nat) : Int) := by
  obtain ⟨n, rfl⟩ : ∃ n : Nat, a = n := ⟨a.toNat, by omega⟩
  rw [Int.toNat_natCast, Int.tdiv_eq_ediv_of_nonneg (by omega)]; rfl
theorem tmodI {a : Int} {b : Nat} (h : 0 ≤ a) : Int.tmod a (b : Int) = ((a.toNat % b : Nat) : Int) := by
  obtain ⟨n, rfl⟩ : ∃ n : Nat, a = n := ⟨a.toNat, by omega⟩
  rw [Int.toNat_natCast, Int.tmod_eq_emod_of_nonneg (by omega)]; rfl
theorem wrap_u8 {a : Int} (h0 : 0 ≤ a) (h1 : a < 256) : IntKind.wrap .u8 a = a := by
  simp only [IntKind.wrap, IntKind.signed, IntKind.bits]; simp; omega
theorem c56 : COk cfg 56 putStC := by
  have hT := ctab_ok (ctab_cons c90 (ctab_cons c95 ctab_nil))
  refine cok_pure pf56 fun vs h K ht => ?_
  obtain ⟨st, w, n, hw, ⟨hs0, hs1⟩, ⟨hn0, hn1⟩, rfl, hk⟩ := ht
  have bad : (badSt st w || decide (n < 0) || decide (1 < n)) = true → AV.tup [AV.str [], AV.int .i64 4] = AV.tup [AV.str (putSt st w n).1, AV.int .i64 (putSt st w n).2] := fun hb => by
    unfold putSt; rw [if_pos hb]
  have hver : (verM n).length = 8 := by unfold verM; split <;> rfl
  refine ⟨_, hk, t56 hT (ifP_intro (fun k => bad ?_) fun k => ifP_intro (fun m => bad ?_) fun m => ⟨w, by omega, rfl, ifP_intro (fun o => bad ?_) fun o => ifP_intro (fun p => ifP_intro (fun q => bad ?_) fun q => ?_) fun p => ?_⟩)⟩
  · unfold badSt; rw [k]; rfl
  · simp only [decide_eq_true_eq] at m; unfold badSt
    rw [decide_eq_true (p := 599 < st) (by omega)]; simp
  · unfold badSt; rw [o]; simp
  · have h1 : ¬n = 0 := by simpa using p
    have h2 : ¬n = 1 := by simpa using q
    simp only [Bool.or_eq_true, decide_eq_true_eq]; omega
  all_goals
    simp only [decide_eq_false_iff_not] at k m
    have hn : n = 0 ∨ n = 1 := by
      first
      | exact .inr (by simpa using q)
      | exact .inl (by simpa using p)
    have e1 : Int.tdiv st 100 = ((st.toNat / 100 : Nat) : Int) := tdivN (b := 100) (by omega)
    have e2 : Int.tdiv st 10 = ((st.toNat / 10 : Nat) : Int) := tdivN (b := 10) (by omega)
    have e3 : Int.tmod st 10 = ((st.toNat % 10 : Nat) : Int) := tmodI (b := 10) (by omega)
    have e4 : Int.tmod ((st.toNat / 10 : Nat) : Int) 10 = ((st.toNat / 10 % 10 : Nat) : Int) := by rw [show (10 : Int) = ((10 : Nat) : Int) from rfl, tmodI (by omega), Int.toNat_natCast]
    have w1 : IntKind.wrap .i64 ((st.toNat / 100 : Nat) : Int) = ((st.toNat / 100 : Nat) : Int) := wrap_in (by omega) (by omega)
    have w2 : IntKind.wrap .i64 ((st.toNat / 10 : Nat) : Int) = ((st.toNat / 10 : Nat) : Int) := wrap_in (by omega) (by omega)
    have w3 : IntKind.wrap .i64 (48 + ((st.toNat / 100 : Nat) : Int)) = 48 + ((st.toNat / 100 : Nat) : Int) := wrap_in (by omega) (by omega)
    have w4 : IntKind.wrap .i64 (48 + ((st.toNat / 10 % 10 : Nat) : Int)) = 48 + ((st.toNat / 10 % 10 : Nat) : Int) := wrap_in (by omega) (by omega)
    have w5 : IntKind.wrap .i64 (48 + ((st.toNat % 10 : Nat) : Int)) = 48 + ((st.toNat % 10 : Nat) : Int) := wrap_in (by omega) (by omega)
    rw [e1, e2, e3, w1, w2, e4, w3, w4, w5, wrap_u8 (a := 48 + ((st.toNat / 100 : Nat) : Int)) (by omega) (by omega), wrap_u8 (a := 48 + ((st.toNat / 10 % 10 : Nat) : Int)) (by omega) (by omega), wrap_u8 (a := 48 + ((st.toNat % 10 : Nat) : Int)) (by omega) (by omega)]
    have t7001 : Int.toNat (48 + ((st.toNat / 100 : Nat) : Int)) = 48 + st.toNat / 100 := by omega
    have t7002 : Int.toNat (48 + ((st.toNat / 10 % 10 : Nat) : Int)) = 48 + st.toNat / 10 % 10 := by omega
    have t7003 : Int.toNat (48 + ((st.toNat % 10 : Nat) : Int)) = 48 + st.toNat % 10 := by omega
    have v1 : rowV [AV.int IntKind.u8 (48 + ((st.toNat / 100 : Nat) : Int))] = UInt8.ofNat (48 + st.toNat / 100) := by show UInt8.ofNat (Int.toNat _) = _; rw [t7001]
    have v2 : rowV [AV.int IntKind.u8 (48 + ((st.toNat / 10 % 10 : Nat) : Int))] = UInt8.ofNat (48 + st.toNat / 10 % 10) := by show UInt8.ofNat (Int.toNat _) = _; rw [t7002]
    have v3 : rowV [AV.int IntKind.u8 (48 + ((st.toNat % 10 : Nat) : Int))] = UInt8.ofNat (48 + st.toNat % 10) := by show UInt8.ofNat (Int.toNat _) = _; rw [t7003]
    rw [v1, v2, v3]
    have es : verM n ++ [32] ++ [UInt8.ofNat (48 + st.toNat / 100), UInt8.ofNat (48 + st.toNat / 10 % 10), UInt8.ofNat (48 + st.toNat % 10)] ++ [32] ++ w = stS st w n := by
      unfold stS verM
      rcases hn with rfl | rfl <;> simp [verS]
    have hb : badSt st w = false := by
      unfold badSt
      rw [decide_eq_false k, decide_eq_false (p := 599 < st) (by omega), Eq.mp (Bool.not_eq_false' _) o]; rfl
    refine gAnd_intro ?_ ⟨n, rfl, gAnd_intro (okL (by rw [hver]; omega)) (gAnd_intro (okL (by simp [hver])) (gAnd_intro (okL (by simp [hver])) (gAnd_intro (okL (by simp [hver]; omega)) ?_)))⟩
    · simp [rowsB, rowB, cellB]; omega
    · rw [es]; unfold putSt
      rw [hb, decide_eq_false (p := n < 0) (by omega), decide_eq_false (p := 1 < n) (by omega), if_neg (by simp)]
      refine ifP_intro (fun z => ?_) fun z => ?_
      · simp only [decide_eq_true_eq] at z
        rw [if_pos (by omega)]
      · simp only [decide_eq_false_iff_not] at z
        rw [if_neg (by omega)]
theorem ver_minor {v : List UInt8} {a b : UInt8} (h : verOf v = some (a, b)) : (if v.getD 7 0 = 48 then (0 : Int) else 1) = ((min 1 (b.toNat - 48) : Nat) : Int) := by
  obtain ⟨rfl, ha, hb⟩ := verOf_some h; have hd := dg_range hb
  show (if b = 48 then (0 : Int) else 1) = _
  by_cases e : b = 48
  · subst e; rfl
  · have : b.toNat ≠ 48 := fun k => e (UInt8.toNat_inj.1 k)
    rw [if_neg e]; omega
theorem split13 {s : List UInt8} (h : 13 ≤ s.length) : ∃ v x c7000 c7001 c7002 y w, v.length = 8 ∧ s = v ++ x :: c7000 :: c7001 :: c7002 :: y :: w := by
  match s, h with
  | a :: b :: c :: d :: e :: f :: g :: i :: x :: c7000 :: c7001 :: c7002 :: y :: w, _ => exact ⟨[a, b, c, d, e, f, g, i], x, c7000, c7001, c7002, y, w, rfl, rfl⟩
theorem byte_eq {x : UInt8} {n : Nat} (hn : n < 256) (h : (x.toNat : Int) = n) : x = UInt8.ofNat n := UInt8.toNat_inj.1 (by rw [ofNat_toNat hn]; omega)
theorem dig_int {c : UInt8} (h : isDg c = true) : IntKind.wrap .i64 (IntKind.wrap .u8 ((c.toNat : Int) - 48)) = ((c.toNat - 48 : Nat) : Int) := by
  have := dg_range h
  rw [wrap_u8 (by omega) (by omega), wrap_in (by omega) (by omega)]; omega
theorem c50 : COk cfg 50 stC := by
  have hT := ctab_ok (ctab_cons c80 (ctab_cons c83 (ctab_cons c89 (ctab_cons c90 ctab_nil))))
  refine cok_pure pf50 fun vs h K ht => ?_
  obtain ⟨s, hs, rfl, hk⟩ := ht; refine ⟨_, hk, t50 hT ?_⟩; unfold big at hs
  have bad : s.length ≤ 2048 → (∀ v w c7000 c7001 c7002 a b, ¬IsSt s v w c7000 c7001 c7002 a b) → AV.tup [AV.int .i64 0, AV.str [], AV.int .i64 0, AV.int .i64 4] = AV.tup [AV.int .i64 (stP s).1, AV.str (stP s).2.1, AV.int .i64 (stP s).2.2.1, AV.int .i64 (stP s).2.2.2] :=
    fun hl hn => by rw [st_none hn hl]
  refine ifP_intro (fun a => ?_) fun a => ifP_intro (fun b => bad ?_ ?_) fun b => ?_
  · unfold stP
    rw [if_pos (by simp at a; omega)]
  · simp at a; omega
  · intro v w c7000 c7001 c7002 x y k; have hv := (verOf_some k.ver).1; have := congrArg List.length k.eq; rw [hv] at this; simp at this b; omega
  · have hle : s.length ≤ 2048 := by simp at a; omega
    obtain ⟨v, x, c7000, c7001, c7002, y, w, hv8, rfl⟩ := split13 (s := s) (by simp at b; omega)
    have g5 : List.getD (v ++ x :: c7000 :: c7001 :: c7002 :: y :: w) 5 0 = List.getD v 5 0 := by
      simp [List.getD_eq_getElem?_getD, List.getElem?_append_left, hv8]
    have g8 : List.getD (v ++ x :: c7000 :: c7001 :: c7002 :: y :: w) 8 0 = x := by simp [List.getD_eq_getElem?_getD, List.getElem?_append_right, hv8]
    have g9 : List.getD (v ++ x :: c7000 :: c7001 :: c7002 :: y :: w) 9 0 = c7000 := by simp [List.getD_eq_getElem?_getD, List.getElem?_append_right, hv8]
    have g10 : List.getD (v ++ x :: c7000 :: c7001 :: c7002 :: y :: w) 10 0 = c7001 := by simp [List.getD_eq_getElem?_getD, List.getElem?_append_right, hv8]
    have g11 : List.getD (v ++ x :: c7000 :: c7001 :: c7002 :: y :: w) 11 0 = c7002 := by simp [List.getD_eq_getElem?_getD, List.getElem?_append_right, hv8]
    have g12 : List.getD (v ++ x :: c7000 :: c7001 :: c7002 :: y :: w) 12 0 = y := by simp [List.getD_eq_getElem?_getD, List.getElem?_append_right, hv8]
    have hlen : (v ++ x :: c7000 :: c7001 :: c7002 :: y :: w).length = 13 + w.length := by simp [hv8]; omega
    have t7008 : cutL (v ++ x :: c7000 :: c7001 :: c7002 :: y :: w) none (some 8) = v := by
      show List.take 8 _ = v; rw [List.take_left' hv8]
    have d13 : cutL (v ++ x :: c7000 :: c7001 :: c7002 :: y :: w) (some 13) none = w := by
      show List.drop 13 _ = w
      rw [show (13 : Nat) = v.length + 5 by omega, List.drop_append]
      simp
    rw [g5, g8, g9, g10, g11, g12, t7008, d13]
    -- what a line of a reply would be
    have form : ∀ {v' w' : List UInt8} {d0 d1 d2 p q : UInt8}, IsSt (v ++ x :: c7000 :: c7001 :: c7002 :: y :: w) v' w' d0 d1 d2 p q → v' = v ∧ x = 32 ∧ d0 = c7000 ∧ d1 = c7001 ∧ d2 = c7002 ∧ y = 32 ∧ w' = w := by
      intro v' w' d0 d1 d2 p q k
      have h8 : v'.length = 8 := by rw [(verOf_some k.ver).1]; rfl
      have he := List.append_inj k.eq (by omega)
      obtain ⟨e1, e2⟩ := he; simp only [List.cons.injEq] at e2; obtain ⟨e2, e3, e4, e5, e6, e7⟩ := e2; exact ⟨e1.symm, e2, e3.symm, e4.symm, e5.symm, e6, e7.symm⟩
    have no : (verOf v = none ∨ x ≠ 32 ∨ ¬(49 ≤ c7000.toNat ∧ c7000.toNat ≤ 53) ∨ isDg c7001 = false ∨ isDg c7002 = false ∨ y ≠ 32 ∨ w.all reasonB = false) → AV.tup [AV.int .i64 0, AV.str [], AV.int .i64 0, AV.int .i64 4] = AV.tup [AV.int .i64 (stP (v ++ x :: c7000 :: c7001 :: c7002 :: y :: w)).1, AV.str (stP (v ++ x :: c7000 :: c7001 :: c7002 :: y :: w)).2.1, AV.int .i64 (stP (v ++ x :: c7000 :: c7001 :: c7002 :: y :: w)).2.2.1, AV.int .i64 (stP (v ++ x :: c7000 :: c7001 :: c7002 :: y :: w)).2.2.2] := fun hw => by
      refine bad hle fun v' w' d0 d1 d2 p q k => ?_
      obtain ⟨rfl, rfl, rfl, rfl, rfl, rfl, rfl⟩ := form k
      rcases hw with h | h | h | h | h | h | h
      · rw [k.ver] at h; cases h
      · exact h rfl
      · exact h k.first
      · rw [k.dg1] at h; cases h
      · rw [k.dg2] at h; cases h
      · exact h rfl
      · rw [k.rsn] at h; cases h
    have inn : ∀ i : Int, 0 ≤ i → i < 13 → inR i (v ++ x :: c7000 :: c7001 :: c7002 :: y :: w).length = true := fun i h0 h1 => inR_of h0 (by rw [hlen]; omega)
    have cut8 : cutOb (v ++ x :: c7000 :: c7001 :: c7002 :: y :: w).length none (some 8) = true := by rw [hlen]; simp [cutOb]; omega
    have cut13 : cutOb (v ++ x :: c7000 :: c7001 :: c7002 :: y :: w).length (some 13) none = true := by rw [hlen]; simp [cutOb]; omega
    refine gAnd_intro cut8 ⟨v, by omega, rfl, ifP_intro (fun k => no (.inl ?_)) fun k => gAnd_intro (inn 8 (by omega) (by omega)) (ifP_intro (fun m => no (.inr (.inl ?_))) fun m => gAnd_intro (inn 9 (by omega) (by omega)) (ifP_intro (fun n => no (.inr (.inr (.inl ?_)))) fun n => gAnd_intro (inn 9 (by omega) (by omega))
      (ifP_intro (fun o => no (.inr (.inr (.inl ?_)))) fun o => gAnd_intro (inn 10 (by omega) (by omega)) ⟨c7001, rfl, ifP_intro (fun p => no (.inr (.inr (.inr (.inl ?_))))) fun p => gAnd_intro (inn 11 (by omega) (by omega)) ⟨c7002, rfl, ifP_intro (fun q => no (.inr (.inr (.inr (.inr (.inl ?_)))))) fun q => gAnd_intro (inn 12 (by omega) (by omega))
        (ifP_intro (fun r => no (.inr (.inr (.inr (.inr (.inr (.inl ?_))))))) fun r => gAnd_intro cut13 ⟨w, by omega, rfl, ifP_intro (fun t => no (.inr (.inr (.inr (.inr (.inr (.inr ?_))))))) fun t => gAnd_intro (inn 5 (by omega) (by omega)) ?_⟩)⟩⟩)))⟩
    · have : isVer v = false := Eq.mp (Bool.not_eq_true' _) k; unfold isVer at this
      cases hvv : verOf v with
      | none => rfl
      | some _ => rw [hvv] at this; cases this
    · rintro rfl; cases m
    · simp only [decide_eq_true_eq] at n; omega
    · simp only [decide_eq_true_eq] at o; omega
    · exact Eq.mp (Bool.not_eq_true' _) p
    · exact Eq.mp (Bool.not_eq_true' _) q
    · rintro rfl; cases r
    · exact Eq.mp (Bool.not_eq_true' _) t
    · have hver : isVer v = true := Eq.mp (Bool.not_eq_false' _) k
      obtain ⟨⟨p1, p2⟩, hvv⟩ : ∃ ab, verOf v = some ab := by
        unfold isVer at hver
        cases hvv : verOf v with
        | none => rw [hvv] at hver; cases hver
        | some ab => exact ⟨ab, rfl⟩
      have x32 : x = 32 := byte_eq (n := 32) (by omega) (by simpa using m)
      have y32 : y = 32 := byte_eq (n := 32) (by omega) (by simpa using r)
      simp only [decide_eq_false_iff_not] at n o; have q1 : isDg c7001 = true := Eq.mp (Bool.not_eq_false' _) p; have q2 : isDg c7002 = true := Eq.mp (Bool.not_eq_false' _) q; have q3 : w.all reasonB = true := Eq.mp (Bool.not_eq_false' _) t
      have hst : IsSt (v ++ x :: c7000 :: c7001 :: c7002 :: y :: w) v w c7000 c7001 c7002 p1 p2 := ⟨by rw [x32, y32], hvv, by omega, q1, q2, q3⟩
      rw [st_some hst hle]
      have v5 : List.getD v 5 0 = p1 := by rw [(verOf_some hvv).1]; rfl
      rw [v5]
      refine ifP_intro (fun z => ?_) fun z => ?_
      · rw [if_neg fun e => by rw [e] at z; cases z]
      · have hp : p1 = 49 := byte_eq (n := 49) (by omega) (by simpa using z)
        rw [if_pos hp]
        refine gAnd_intro (inn 9 (by omega) (by omega)) (gAnd_intro (inn 10 (by omega) (by omega)) (gAnd_intro (inn 11 (by omega) (by omega)) (gAnd_intro cut13 (gAnd_intro cut8 ⟨v, by omega, rfl, ?_⟩))))
        have q0 := first_dg (c := c7000) (by omega)
        have r0 := dg_range q0; have r1 := dg_range q1; have r2 := dg_range q2; rw [dig_int q0, dig_int q1, dig_int q2, ver_minor hvv]
        have eN : IntKind.wrap .i64 (IntKind.wrap .i64 (IntKind.wrap .i64 (100 * ((c7000.toNat - 48 : Nat) : Int)) + IntKind.wrap .i64 (10 * ((c7001.toNat - 48 : Nat) : Int))) + ((c7002.toNat - 48 : Nat) : Int)) = codeN [c7000, c7001, c7002] := by
          rw [wrap_in (n := 100 * ((c7000.toNat - 48 : Nat) : Int)) (by omega) (by omega), wrap_in (n := 10 * ((c7001.toNat - 48 : Nat) : Int)) (by omega) (by omega), wrap_in (n := 100 * ((c7000.toNat - 48 : Nat) : Int) + 10 * ((c7001.toNat - 48 : Nat) : Int)) (by omega) (by omega), wrap_in (by omega) (by omega)]
          rfl
        rw [eN]
end Go.Proofs.YtnncfdlpogjlkaaGreatDoor.Ln
end
section
namespace Go.Proofs.YtnncfdlpogjlkaaGreatDoor.Ln
open Go.Ai Go.Ai.Ln Go
set_option maxRecDepth 100000
def reqV (s : List UInt8) : AV := .tup [.str (reqP s).1, .str (reqP s).2.1, .int .i64 (reqP s).2.2.1, .int .i64 (reqP s).2.2.2]
theorem tab39 : TabOk cfg (ctab [(80, strC isVer), (81, strC tokenB), (82, strC (fun s => s.all targetB && !s.isEmpty)), (83, minorC)]) := ctab_ok (ctab_cons c80 (ctab_cons c81 (ctab_cons c82 (ctab_cons c83 ctab_nil))))
theorem loop39 {u v : List UInt8} {x y : UInt8} (hv : verOf v = some (x, y)) (hl : (u ++ 32 :: v).length ≤ 2048) : ∀ (r pre : List UInt8), u = pre ++ r →
    (∀ m p : List UInt8, u = m ++ 32 :: p → tokenB m = true → p.all targetB = true → p ≠ [] → pre.length ≤ m.length) →
    ToEnd cfg 39 (bodyOf Tryz.f39) (RetIs Tryz.prog Tryz.f39 (reqV (u ++ 32 :: v))) [.code [0, 1, 0, 1, 1, 1, 1], .block 0, .code [1, 1, 1, 1, 1]] .normal [(0, true, .str (u ++ 32 :: v)), (6, true, .int .i64 u.length), (7, true, .int .i64 pre.length)] [] := by
  have hv8 : v.length = 8 := by rw [(verOf_some hv).1]; rfl
  have hlen : (u ++ 32 :: v).length = u.length + 9 := by simp [hv8]
  have uniq : ∀ {m p v' : List UInt8} {a b : UInt8}, IsReq (u ++ 32 :: v) m p v' a b → u = m ++ 32 :: p := by
    intro m p v' a b k
    have h8 : v'.length = 8 := by rw [(verOf_some k.ver).1]; rfl
    have e : u ++ 32 :: v = (m ++ 32 :: p) ++ 32 :: v' := by rw [k.eq]; simp
    have hl2 := congrArg List.length e; simp [hv8, h8] at hl2
    exact (List.append_inj e (by simp; omega)).1
  intro r
  induction r with
  | nil =>
    intro pre hu hinv; rw [List.append_nil] at hu; subst hu
    refine t39b (s := []) tab39 (ifP_intro (fun a => ?_) fun _ => ?_)
    · simp at a
    · unfold reqV
      rw [req_none (fun m p v' a b k => ?_) hl]
      have e := uniq k; have := hinv m p e k.tok k.tgt k.ne; rw [e] at this; simp at this; omega
  | cons c r ih =>
    intro pre hu hinv
    have hul : u.length = pre.length + 1 + r.length := by rw [hu]; simp; omega
    have hin : inR (pre.length : Int) (u ++ 32 :: v).length = true := inR_of (by omega) (by rw [hlen]; omega)
    have hget : List.getD (u ++ 32 :: v) (Int.toNat (pre.length : Int)) 0 = c := by
      rw [hu, List.append_assoc, List.cons_append]; exact at_pre _ _ _
    have hw : IntKind.wrap .i64 ((pre.length : Int) + 1) = ((pre.length + 1 : Nat) : Int) := wrap_n (by unfold big; omega)
    have hpre : cutL (u ++ 32 :: v) none (some (pre.length : Int)) = pre := by
      show List.take (pre.length : Int).toNat _ = pre; rw [hu, Int.toNat_natCast, List.append_assoc, List.take_left']; rfl
    have hr : cutL (u ++ 32 :: v) (some ((pre.length + 1 : Nat) : Int)) (some (u.length : Int)) = r := by
      show List.drop ((pre.length + 1 : Nat) : Int).toNat (List.take (u.length : Int).toNat _) = r; rw [Int.toNat_natCast, Int.toNat_natCast, List.take_left' rfl, hu, List.drop_append]; simp
    have next : (∀ m p : List UInt8, u = m ++ 32 :: p → tokenB m = true → p.all targetB = true → p ≠ [] → m.length ≠ pre.length) →
        ToEnd cfg 39 (bodyOf Tryz.f39) (RetIs Tryz.prog Tryz.f39 (reqV (u ++ 32 :: v))) [.code [0, 1, 0, 1, 1, 1, 1], .block 0, .code [1, 1, 1, 1, 1]] .normal [(0, true, .str (u ++ 32 :: v)), (6, true, .int .i64 u.length), (7, true, .int .i64 ((pre.length + 1 : Nat) : Int))] [] := by
      intro hne
      have := ih (pre ++ [c]) (by rw [hu]; simp) fun m p e k1 k2 k3 => by
        have h1 := hinv m p e k1 k2 k3; have h2 := hne m p e k1 k2 k3; simp; omega
      simpa using this
    -- a piece that is cut at this place
    have here : ∀ m p : List UInt8, u = m ++ 32 :: p → m.length = pre.length → m = pre ∧ c = 32 ∧ p = r := by
      intro m p e hm; rw [hu] at e
      obtain ⟨e1, e2⟩ := List.append_inj e (by omega)
      injection e2 with e2 e3
      exact ⟨e1.symm, e2, e3.symm⟩
    refine t39b (s := []) tab39 (ifP_intro (fun _ => gAnd_intro hin ?_) fun a => ?_)
    · rw [hget, hw, hpre, hr]
      refine ifP_intro (fun b => next fun m p e _ _ _ hm => ?_) fun b => gAnd_intro (by simp [cutOb]; omega) ⟨pre, by omega, rfl, ifP_intro (fun d => next fun m p e k1 _ _ hm => ?_) fun d => gAnd_intro (by simp [cutOb]; omega) ⟨r, by omega, rfl, ifP_intro (fun f => next fun m p e _ k2 k3 hm => ?_) fun f => ?_⟩⟩
      · obtain ⟨_, rfl, _⟩ := here m p e hm; cases b
      · obtain ⟨rfl, _, _⟩ := here m p e hm; rw [k1] at d; cases d
      · obtain ⟨_, _, rfl⟩ := here m p e hm
        have hem : p.isEmpty = false := by
          cases p with
          | nil => exact absurd rfl k3
          | cons _ _ => rfl
        have f' : (p.all targetB && !p.isEmpty) = false := Eq.mp (Bool.not_eq_true' _) f; rw [k2, hem] at f'; cases f'
      · have hc : c = 32 := byte_eq (n := 32) (by omega) (by simpa using b)
        subst hc; have htok : tokenB pre = true := Eq.mp (Bool.not_eq_false' _) d; have f' : (r.all targetB && !r.isEmpty) = true := Eq.mp (Bool.not_eq_false' _) f; simp only [Bool.and_eq_true, Bool.not_eq_true'] at f'
        have hne : r ≠ [] := fun e => by rw [e] at f'; simp at f'
        have hreq : IsReq (u ++ 32 :: v) pre r v x y := ⟨by rw [hu]; simp, htok, f'.1, hne, hv⟩
        have hx : List.getD (u ++ 32 :: v) (Int.toNat ((u.length + 6 : Nat) : Int)) 0 = x := by
          rw [Int.toNat_natCast, List.getD_eq_getElem?_getD, List.getElem?_append_right (by omega), show u.length + 6 - u.length = 6 by omega, (verOf_some hv).1]
          rfl
        have w6 : IntKind.wrap .i64 ((u.length : Int) + 6) = ((u.length + 6 : Nat) : Int) := by rw [wrap_in] <;> omega
        have w1 : IntKind.wrap .i64 ((u.length : Int) + 1) = ((u.length + 1 : Nat) : Int) := by rw [wrap_in] <;> omega
        have wd : IntKind.wrap .i64 (IntKind.wrap .i64 ((u.length : Int) - (pre.length : Int)) - 1) = (r.length : Int) := by
          rw [wrap_in (n := (u.length : Int) - pre.length) (by omega) (by omega), wrap_in (by omega) (by omega)]; omega
        have hdv : cutL (u ++ 32 :: v) (some ((u.length + 1 : Nat) : Int)) none = v := by
          show List.drop ((u.length + 1 : Nat) : Int).toNat _ = v; rw [Int.toNat_natCast, List.drop_append]; simp
        rw [w6, w1, wd, hx, hdv]; unfold reqV; rw [req_some hreq hl]
        refine gAnd_intro (inR_of (by omega) (by rw [hlen]; omega)) (ifP_intro (fun z => ?_) fun z => ifP_intro (fun o => ?_) fun o => gAnd_intro (by simp [cutOb]; omega) (gAnd_intro (by simp [cutOb]; omega) (gAnd_intro (by simp [cutOb]; omega) ⟨v, by omega, rfl, ?_⟩)))
        · rw [if_neg fun e => by rw [e] at z; cases z]
        · have hp : x = 49 := byte_eq (n := 49) (by omega) (by simpa using z)
          simp only [decide_eq_true_eq] at o
          rw [if_pos hp, if_pos (by omega)]
        · have hp : x = 49 := byte_eq (n := 49) (by omega) (by simpa using z)
          simp only [decide_eq_false_iff_not] at o
          rw [ver_minor hv, if_pos hp, if_neg (by omega)]
    · simp only [decide_eq_false_iff_not] at a; omega
theorem split9 {s : List UInt8} (h : 9 ≤ s.length) : ∃ u y v, v.length = 8 ∧ s = u ++ y :: v := by
  have h1 : (s.drop (s.length - 9)).length = 9 := by simp; omega
  match hd : s.drop (s.length - 9), h1 with
  | y :: v, h1 =>
    refine ⟨s.take (s.length - 9), y, v, by simp at h1; omega, ?_⟩
    rw [← hd, List.take_append_drop]
theorem c39 : COk cfg 39 reqC := by
  refine cok_pure pf39 fun vs h K ht => ?_
  obtain ⟨s, hs, rfl, hk⟩ := ht; refine ⟨_, hk, t39a tab39 ?_⟩; unfold big at hs
  have w9 : IntKind.wrap .i64 ((s.length : Int) - 9) = (s.length : Int) - 9 := wrap_in (by omega) (by omega)
  rw [w9]
  have bad : s.length ≤ 2048 → (∀ m p v a b, ¬IsReq s m p v a b) → AV.tup [AV.str [], AV.str [], AV.int .i64 0, AV.int .i64 4] = reqV s := fun hl hn => by unfold reqV; rw [req_none hn hl]
  refine ifP_intro (fun a => ?_) fun a => ifP_intro (fun b => bad ?_ ?_) fun b => ?_
  · show _ = reqV s; unfold reqV reqP
    rw [if_pos (by simp at a; omega)]
  · simp at a; omega
  · intro m p v x y k; have hv := (verOf_some k.ver).1; have := congrArg List.length k.eq; rw [hv] at this; simp at this b; omega
  · have hle : s.length ≤ 2048 := by simp at a; omega
    obtain ⟨u, y, v, hv8, rfl⟩ := split9 (s := s) (by simp at b; omega)
    have hlen : (u ++ y :: v).length = u.length + 9 := by simp [hv8]
    have en : ((u ++ y :: v).length : Int) - 9 = (u.length : Int) := by rw [hlen]; omega
    have w1 : IntKind.wrap .i64 ((u.length : Int) + 1) = ((u.length + 1 : Nat) : Int) := by rw [wrap_in] <;> omega
    have hdv : cutL (u ++ y :: v) (some ((u.length + 1 : Nat) : Int)) none = v := by
      show List.drop ((u.length + 1 : Nat) : Int).toNat _ = v; rw [Int.toNat_natCast, List.drop_append]; simp
    rw [en, at_pre, w1, hdv]
    have form : ∀ {m p v' : List UInt8} {x z : UInt8}, IsReq (u ++ y :: v) m p v' x z → y = 32 ∧ v' = v := by
      intro m p v' x z k
      have h8 : v'.length = 8 := by rw [(verOf_some k.ver).1]; rfl
      have e : u ++ y :: v = (m ++ 32 :: p) ++ 32 :: v' := by rw [k.eq]; simp
      have hl2 := congrArg List.length e; simp [hv8, h8] at hl2
      obtain ⟨_, e2⟩ := List.append_inj e (by simp; omega)
      injection e2 with e2 e3
      exact ⟨e2, e3.symm⟩
    refine gAnd_intro (inR_of (by omega) (by rw [hlen]; omega)) (ifP_intro (fun d => bad hle fun m p v' x z k => ?_) fun d => gAnd_intro (by rw [hlen]; simp [cutOb]; omega) ⟨v, by omega, rfl, ifP_intro (fun f => bad hle fun m p v' x z k => ?_) fun f => ?_⟩)
    · rw [(form k).1] at d; cases d
    · have f' : isVer v = false := Eq.mp (Bool.not_eq_true' _) f; unfold isVer at f'; rw [← (form k).2, k.ver] at f'; cases f'
    · have hy : y = 32 := byte_eq (n := 32) (by omega) (by simpa using d)
      subst hy; have f' : isVer v = true := Eq.mp (Bool.not_eq_false' _) f
      obtain ⟨⟨p1, p2⟩, hvv⟩ : ∃ ab, verOf v = some ab := by
        unfold isVer at f'
        cases hvv : verOf v with
        | none => rw [hvv] at f'; cases f'
        | some ab => exact ⟨ab, rfl⟩
      exact loop39 hvv hle u [] rfl fun m p _ _ _ _ => Nat.zero_le _
end Go.Proofs.YtnncfdlpogjlkaaGreatDoor.Ln
end
