/-
  Runs of functions of start lines, printed by a home tool; each is the kernel's word.
  Start lines: bytes, tokens, sorts, prefixes: the functions keep to their contracts.
  Start lines: sorts of bytes, prefixes, versions, what is put: the functions keep to their contracts.
  Start lines: the program's readers keep to their contracts.
  Start lines: the program's readers of a request's line and of a reply's keep to their contracts.
  Start lines: what is put, the program's and the document's.
  Start lines: the document's readers, and how it puts a reply's line.
  Start lines: the document's reader of a request's line.
-/
import Derived.Test.YtnncfdlpogjlkaaGreatDoorACfg
import Derived.Test.YtnncfdlpogjlkaaGreatDoorAJZo
section
namespace Go.Proofs.YtnncfdlpogjlkaaGreatDoor.Ln
open Go.Ai Go.Ai.Ln Go
set_option maxRecDepth 100000
set_option linter.unusedVariables false
theorem t116 {v : AV} {c : Int} (hT : TabOk cfg (ctab [])) (H : ifP (decide (c ≥ 48)) (AV.bool (decide (c ≤ 57)) = v) (AV.bool false = v)) : ToEnd cfg 116 (bodyOf Tryz.f116) (RetIs Tryz.prog Tryz.f116 v) ([.code []]) .normal ([(0, true, .int .u8 c)]) ([]) := by
  exact unr_ok (pl := ⟨[], []⟩) hT 100000 _ _ _ _ (unr_use H (by kernel_rfl))

theorem t125 {v : AV} {c : Int} (hT : TabOk cfg (ctab [])) (H : ifP (decide (c ≥ 65)) (ifP (decide (c ≤ 90)) (AV.bool true = v) (ifP (decide (c ≥ 97)) (ifP (decide (c ≤ 122)) (AV.bool true = v) (ifP (decide (c ≥ 48)) (AV.bool (decide (c ≤ 57)) = v) (AV.bool false = v))) (ifP (decide (c ≥ 48)) (AV.bool (decide (c ≤ 57)) = v) (AV.bool false = v)))) (ifP (decide (c ≥ 97)) (ifP (decide (c ≤ 122)) (AV.bool true = v) (ifP (decide (c ≥ 48)) (AV.bool (decide (c ≤ 57)) = v) (AV.bool false = v))) (ifP (decide (c ≥ 48)) (AV.bool (decide (c ≤ 57)) = v) (AV.bool false = v)))) : ToEnd cfg 125 (bodyOf Tryz.f125) (RetIs Tryz.prog Tryz.f125 v) ([.code []]) .normal ([(0, true, .int .u8 c)]) ([]) := by
  exact unr_ok (pl := ⟨[], []⟩) hT 100000 _ _ _ _ (unr_use H (by kernel_rfl))

theorem t114 {v : AV} {c : Int} (hT : TabOk cfg (ctab [(153, ixC)])) (H : ifP (decide (c ≥ 97)) (ifP (decide (c ≤ 122)) (AV.bool true = v) (ifP (decide (c ≥ 65)) (ifP (decide (c ≤ 90)) (AV.bool true = v) (ifP (decide (c ≥ 48)) (ifP (decide (c ≤ 57)) (AV.bool true = v) (∃ (s1 : List UInt8) (c2 : UInt8), [AV.str [33, 35, 36, 37, 38, 39, 42, 43, 45, 46, 94, 95, 96, 124, 126], AV.int IntKind.u8 c] = [AV.str s1, AV.int IntKind.u8 (↑(UInt8.toNat c2) : Int)] ∧ AV.bool (decide (Lib.indexByte s1 c2 ≥ 0)) = v)) (∃ (s3 : List UInt8) (c4 : UInt8), [AV.str [33, 35, 36, 37, 38, 39, 42, 43, 45, 46, 94, 95, 96, 124, 126], AV.int IntKind.u8 c] = [AV.str s3, AV.int IntKind.u8 (↑(UInt8.toNat c4) : Int)] ∧ AV.bool (decide (Lib.indexByte s3 c4 ≥ 0)) = v))) (ifP (decide (c ≥ 48)) (ifP (decide (c ≤ 57)) (AV.bool true = v) (∃ (s5 : List UInt8) (c6 : UInt8), [AV.str [33, 35, 36, 37, 38, 39, 42, 43, 45, 46, 94, 95, 96, 124, 126], AV.int IntKind.u8 c] = [AV.str s5, AV.int IntKind.u8 (↑(UInt8.toNat c6) : Int)] ∧ AV.bool (decide (Lib.indexByte s5 c6 ≥ 0)) = v)) (∃ (s7 : List UInt8) (c8 : UInt8), [AV.str [33, 35, 36, 37, 38, 39, 42, 43, 45, 46, 94, 95, 96, 124, 126], AV.int IntKind.u8 c] = [AV.str s7, AV.int IntKind.u8 (↑(UInt8.toNat c8) : Int)] ∧ AV.bool (decide (Lib.indexByte s7 c8 ≥ 0)) = v)))) (ifP (decide (c ≥ 65)) (ifP (decide (c ≤ 90)) (AV.bool true = v) (ifP (decide (c ≥ 48)) (ifP (decide (c ≤ 57)) (AV.bool true = v) (∃ (s9 : List UInt8) (c10 : UInt8), [AV.str [33, 35, 36, 37, 38, 39, 42, 43, 45, 46, 94, 95, 96, 124, 126], AV.int IntKind.u8 c] = [AV.str s9, AV.int IntKind.u8 (↑(UInt8.toNat c10) : Int)] ∧ AV.bool (decide (Lib.indexByte s9 c10 ≥ 0)) = v)) (∃ (s11 : List UInt8) (c12 : UInt8), [AV.str [33, 35, 36, 37, 38, 39, 42, 43, 45, 46, 94, 95, 96, 124, 126], AV.int IntKind.u8 c] = [AV.str s11, AV.int IntKind.u8 (↑(UInt8.toNat c12) : Int)] ∧ AV.bool (decide (Lib.indexByte s11 c12 ≥ 0)) = v))) (ifP (decide (c ≥ 48)) (ifP (decide (c ≤ 57)) (AV.bool true = v) (∃ (s13 : List UInt8) (c14 : UInt8), [AV.str [33, 35, 36, 37, 38, 39, 42, 43, 45, 46, 94, 95, 96, 124, 126], AV.int IntKind.u8 c] = [AV.str s13, AV.int IntKind.u8 (↑(UInt8.toNat c14) : Int)] ∧ AV.bool (decide (Lib.indexByte s13 c14 ≥ 0)) = v)) (∃ (s15 : List UInt8) (c16 : UInt8), [AV.str [33, 35, 36, 37, 38, 39, 42, 43, 45, 46, 94, 95, 96, 124, 126], AV.int IntKind.u8 c] = [AV.str s15, AV.int IntKind.u8 (↑(UInt8.toNat c16) : Int)] ∧ AV.bool (decide (Lib.indexByte s15 c16 ≥ 0)) = v)))) : ToEnd cfg 114 (bodyOf Tryz.f114) (RetIs Tryz.prog Tryz.f114 v) ([.code []]) .normal ([(0, true, .int .u8 c)]) ([]) := by
  exact unr_ok (pl := ⟨[], []⟩) hT 100000 _ _ _ _ (unr_use H (by kernel_rfl))

theorem t126a {v : AV} {c : Int} {s : List UInt8} (hT : TabOk cfg (ctab [])) (H : ToEnd cfg 126 (bodyOf Tryz.f126) (RetIs Tryz.prog Tryz.f126 v) [Fm.code [0, 1, 0, 1], Fm.block 0, Fm.code [1, 1]] XT.normal [(0, true, AV.int IntKind.u8 c), (1, true, AV.str s), (5, true, AV.int IntKind.i64 0)] []) : ToEnd cfg 126 (bodyOf Tryz.f126) (RetIs Tryz.prog Tryz.f126 v) ([.code []]) .normal ([(0, true, .int .u8 c), (1, true, .str s)]) ([]) := by
  exact unr_ok (pl := ⟨[[0, 1, 0, 1]], []⟩) hT 100000 _ _ _ _ (unr_use H (by kernel_rfl))

theorem t75a {v : AV} {s : List UInt8} (hT : TabOk cfg (ctab [(114, byteC wordB)])) (H : ToEnd cfg 75 (bodyOf Tryz.f75) (RetIs Tryz.prog Tryz.f75 v) [Fm.code [0, 1, 0, 1], Fm.block 0, Fm.code [1, 1]] XT.normal [(0, true, AV.str s), (5, true, AV.int IntKind.i64 (↑(List.length s) : Int)), (6, true, AV.int IntKind.i64 0)] []) : ToEnd cfg 75 (bodyOf Tryz.f75) (RetIs Tryz.prog Tryz.f75 v) ([.code []]) .normal ([(0, true, .str s)]) ([]) := by
  exact unr_ok (pl := ⟨[[0, 1, 0, 1]], []⟩) hT 100000 _ _ _ _ (unr_use H (by kernel_rfl))

theorem t81a {v : AV} {s : List UInt8} (hT : TabOk cfg (ctab [(125, byteC letterB), (126, inC)])) (H : ToEnd cfg 81 (bodyOf Tryz.f81) (RetIs Tryz.prog Tryz.f81 v) [Fm.code [0, 1, 0, 1], Fm.block 0, Fm.code [1, 1]] XT.normal [(0, true, AV.str s), (3, true, AV.int IntKind.i64 0)] []) : ToEnd cfg 81 (bodyOf Tryz.f81) (RetIs Tryz.prog Tryz.f81 v) ([.code []]) .normal ([(0, true, .str s)]) ([]) := by
  exact unr_ok (pl := ⟨[[0, 1, 0, 1]], []⟩) hT 100000 _ _ _ _ (unr_use H (by kernel_rfl))

theorem t74a {v : AV} {l s : List UInt8} (hT : TabOk cfg (ctab [])) (H : ToEnd cfg 74 (bodyOf Tryz.f74) (RetIs Tryz.prog Tryz.f74 v) [Fm.code [0, 1, 0, 1], Fm.block 0, Fm.code [1, 1]] XT.normal [(0, true, AV.str l), (1, true, AV.str s), (9, true, AV.int IntKind.i64 (↑(List.length s) : Int)), (10, true, AV.int IntKind.i64 0)] []) : ToEnd cfg 74 (bodyOf Tryz.f74) (RetIs Tryz.prog Tryz.f74 v) ([.code []]) .normal ([(0, true, .str l), (1, true, .str s)]) ([]) := by
  exact unr_ok (pl := ⟨[[0, 1, 0, 1], [0, 1, 0, 1, 1, 0, 0, 1, 1, 0, 0, 1, 0, 1]], []⟩) hT 100000 _ _ _ _ (unr_use H (by kernel_rfl))

theorem t108 {v : AV} {s x : List UInt8} (hT : TabOk cfg (ctab [])) (H : ifP (decide ((↑(List.length s) : Int) ≥ (↑(List.length x) : Int))) (gAnd (cutOb (List.length s) none (some (↑(List.length x) : Int))) (AV.bool (cutL s none (some (↑(List.length x) : Int)) == x) = v)) (AV.bool false = v)) : ToEnd cfg 108 (bodyOf Tryz.f108) (RetIs Tryz.prog Tryz.f108 v) ([.code []]) .normal ([(0, true, .str s), (1, true, .str x)]) ([]) := by
  exact unr_ok (pl := ⟨[], []⟩) hT 100000 _ _ _ _ (unr_use H (by kernel_rfl))

theorem t154 {v : AV} {s x : List UInt8} (hT : TabOk cfg (ctab [(108, Ai.Ln.prefC)])) (H : ∃ (s1 : List UInt8) (x2 : List UInt8), [AV.str s, AV.str x] = [AV.str s1, AV.str x2] ∧ ifP (!List.isPrefixOf x2 s1) (AV.tup [AV.str s, AV.bool false] = v) (gAnd (cutOb (List.length s) (some (↑(List.length x) : Int)) none) (AV.tup [AV.str (cutL s (some (↑(List.length x) : Int)) none), AV.bool true] = v))) : ToEnd cfg 154 (bodyOf Tryz.f154) (RetIs Tryz.prog Tryz.f154 v) ([.code []]) .normal ([(0, true, .str s), (1, true, .str x)]) ([]) := by
  exact unr_ok (pl := ⟨[], []⟩) hT 100000 _ _ _ _ (unr_use H (by kernel_rfl))

theorem t115 {v : AV} {s x : List UInt8} (hT : TabOk cfg (ctab [(154, cutPC)])) (H : ∃ (s1 : List UInt8) (x2 : List UInt8), [AV.str s, AV.str x] = [AV.str s1, AV.str x2] ∧ AV.tup [AV.str (Prod.fst (cutP s1 x2)), AV.bool (Prod.snd (cutP s1 x2))] = v) : ToEnd cfg 115 (bodyOf Tryz.f115) (RetIs Tryz.prog Tryz.f115 v) ([.code []]) .normal ([(0, true, .str s), (1, true, .str x)]) ([]) := by
  exact unr_ok (pl := ⟨[], []⟩) hT 100000 _ _ _ _ (unr_use H (by kernel_rfl))

theorem t91 {v : AV} {mi : Int} {bad : Bool} {s : List UInt8} (hT : TabOk cfg (ctab [])) (H : ifP bad (AV.tup [AV.str [], AV.int IntKind.i64 4] = v) (ifP (decide (mi < 0)) (AV.tup [AV.str [], AV.int IntKind.i64 4] = v) (ifP (decide (mi > 1)) (AV.tup [AV.str [], AV.int IntKind.i64 4] = v) (ifP (decide ((↑(List.length s) : Int) > 2048)) (AV.tup [AV.str [], AV.int IntKind.i64 3] = v) (AV.tup [AV.str s, AV.int IntKind.i64 0] = v))))) : ToEnd cfg 91 (bodyOf Tryz.f91) (RetIs Tryz.prog Tryz.f91 v) ([.code []]) .normal ([(0, true, .int .i64 mi), (1, true, .bool bad), (2, true, .str s)]) ([]) := by
  exact unr_ok (pl := ⟨[], []⟩) hT 100000 _ _ _ _ (unr_use H (by kernel_rfl))

theorem t82a {v : AV} {s : List UInt8} (hT : TabOk cfg (ctab [])) (H : ToEnd cfg 82 (bodyOf Tryz.f82) (RetIs Tryz.prog Tryz.f82 v) [Fm.code [0, 1, 0, 1], Fm.block 0, Fm.code [1, 1]] XT.normal [(0, true, AV.str s), (3, true, AV.int IntKind.i64 0)] []) : ToEnd cfg 82 (bodyOf Tryz.f82) (RetIs Tryz.prog Tryz.f82 v) ([.code []]) .normal ([(0, true, .str s)]) ([]) := by
  exact unr_ok (pl := ⟨[[0, 1, 0, 1]], []⟩) hT 100000 _ _ _ _ (unr_use H (by kernel_rfl))

theorem t90a {v : AV} {s : List UInt8} (hT : TabOk cfg (ctab [])) (H : ToEnd cfg 90 (bodyOf Tryz.f90) (RetIs Tryz.prog Tryz.f90 v) [Fm.code [0, 1, 0, 1], Fm.block 0, Fm.code [1, 1]] XT.normal [(0, true, AV.str s), (3, true, AV.int IntKind.i64 0)] []) : ToEnd cfg 90 (bodyOf Tryz.f90) (RetIs Tryz.prog Tryz.f90 v) ([.code []]) .normal ([(0, true, .str s)]) ([]) := by
  exact unr_ok (pl := ⟨[[0, 1, 0, 1]], []⟩) hT 100000 _ _ _ _ (unr_use H (by kernel_rfl))

theorem t95 {v : AV} {n : Int} (hT : TabOk cfg (ctab [])) (H : ifP (n == 0) (AV.str [72, 84, 84, 80, 47, 49, 46, 48] = v) (AV.str [72, 84, 84, 80, 47, 49, 46, 49] = v)) : ToEnd cfg 95 (bodyOf Tryz.f95) (RetIs Tryz.prog Tryz.f95 v) ([.code []]) .normal ([(0, true, .int .i64 n)]) ([]) := by
  exact unr_ok (pl := ⟨[], []⟩) hT 100000 _ _ _ _ (unr_use H (by kernel_rfl))

theorem t126b {v : AV}   {i0 : Int} {s1 : List UInt8} {i5 : Int} (hT : TabOk cfg (ctab [])) (H : ifP (decide (i5 < (↑(List.length s1) : Int))) (gAnd (inR i5 (List.length s1)) (ifP ((↑(UInt8.toNat (List.getD s1 (Int.toNat i5) 0)) : Int) == i0) (AV.bool true = v) (ToEnd cfg 126 (bodyOf Tryz.f126) (RetIs Tryz.prog Tryz.f126 v) [Fm.code [0, 1, 0, 1], Fm.block 0, Fm.code [1, 1]] XT.normal [(0, true, AV.int IntKind.u8 i0), (1, true, AV.str s1), (5, true, AV.int IntKind.i64 (IntKind.wrap IntKind.i64 (i5 + 1)))] []))) (AV.bool false = v)) : ToEnd cfg 126 (bodyOf Tryz.f126) (RetIs Tryz.prog Tryz.f126 v) ([.code [0, 1, 0, 1], Fm.block 0, Fm.code [1, 1]]) .normal ([(0, true, AV.int IntKind.u8 i0), (1, true, AV.str s1), (5, true, AV.int IntKind.i64 i5)]) ([]) := by
  exact ends_round (pl := ⟨[[0, 1, 0, 1]], []⟩) hT 100000 (by kernel_rfl) (unr_use H (by kernel_rfl))

theorem t75b {v : AV}  {s0 : List UInt8} {i5 : Int} {i6 : Int} (hT : TabOk cfg (ctab [(114, byteC wordB)])) (H : ifP (decide (i6 < i5)) (gAnd (inR i6 (List.length s0)) (∃ (c1 : UInt8), [AV.int IntKind.u8 (↑(UInt8.toNat (List.getD s0 (Int.toNat i6) 0)) : Int)] = [AV.int IntKind.u8 (↑(UInt8.toNat c1) : Int)] ∧ ifP (!wordB c1) (AV.bool false = v) (ToEnd cfg 75 (bodyOf Tryz.f75) (RetIs Tryz.prog Tryz.f75 v) [Fm.code [0, 1, 0, 1], Fm.block 0, Fm.code [1, 1]] XT.normal [(0, true, AV.str s0), (5, true, AV.int IntKind.i64 i5), (6, true, AV.int IntKind.i64 (IntKind.wrap IntKind.i64 (i6 + 1)))] []))) ((AV.bool !s0 == []) = v)) : ToEnd cfg 75 (bodyOf Tryz.f75) (RetIs Tryz.prog Tryz.f75 v) ([.code [0, 1, 0, 1], Fm.block 0, Fm.code [1, 1]]) .normal ([(0, true, AV.str s0), (5, true, AV.int IntKind.i64 i5), (6, true, AV.int IntKind.i64 i6)]) ([]) := by
  exact ends_round (pl := ⟨[[0, 1, 0, 1]], []⟩) hT 100000 (by kernel_rfl) (unr_use H (by kernel_rfl))

theorem t81b {v : AV}  {s0 : List UInt8} {i3 : Int} (hT : TabOk cfg (ctab [(125, byteC letterB), (126, inC)])) (H : ifP (decide (i3 < (↑(List.length s0) : Int))) (gAnd (inR i3 (List.length s0)) (∃ (c1 : UInt8), [AV.int IntKind.u8 (↑(UInt8.toNat (List.getD s0 (Int.toNat i3) 0)) : Int)] = [AV.int IntKind.u8 (↑(UInt8.toNat c1) : Int)] ∧ ifP (!letterB c1) (gAnd (inR i3 (List.length s0)) (∃ (c2 : UInt8) (s3 : List UInt8), List.length s3 ≤ 100000 ∧ [AV.int IntKind.u8 (↑(UInt8.toNat (List.getD s0 (Int.toNat i3) 0)) : Int), AV.str [33, 35, 36, 37, 38, 39, 42, 43, 45, 46, 94, 95, 96, 124, 126]] = [AV.int IntKind.u8 (↑(UInt8.toNat c2) : Int), AV.str s3] ∧ ifP (!List.contains s3 c2) (AV.bool false = v) (ToEnd cfg 81 (bodyOf Tryz.f81) (RetIs Tryz.prog Tryz.f81 v) [Fm.code [0, 1, 0, 1], Fm.block 0, Fm.code [1, 1]] XT.normal [(0, true, AV.str s0), (3, true, AV.int IntKind.i64 (IntKind.wrap IntKind.i64 (i3 + 1)))] []))) (ToEnd cfg 81 (bodyOf Tryz.f81) (RetIs Tryz.prog Tryz.f81 v) [Fm.code [0, 1, 0, 1], Fm.block 0, Fm.code [1, 1]] XT.normal [(0, true, AV.str s0), (3, true, AV.int IntKind.i64 (IntKind.wrap IntKind.i64 (i3 + 1)))] []))) (AV.bool (decide ((↑(List.length s0) : Int) > 0)) = v)) : ToEnd cfg 81 (bodyOf Tryz.f81) (RetIs Tryz.prog Tryz.f81 v) ([.code [0, 1, 0, 1], Fm.block 0, Fm.code [1, 1]]) .normal ([(0, true, AV.str s0), (3, true, AV.int IntKind.i64 i3)]) ([]) := by
  exact ends_round (pl := ⟨[[0, 1, 0, 1]], []⟩) hT 100000 (by kernel_rfl) (unr_use H (by kernel_rfl))

theorem t82b {v : AV}  {s0 : List UInt8} {i3 : Int} (hT : TabOk cfg (ctab [])) (H : ifP (decide (i3 < (↑(List.length s0) : Int))) (gAnd (inR i3 (List.length s0)) (ifP (decide ((↑(UInt8.toNat (List.getD s0 (Int.toNat i3) 0)) : Int) < 33)) (AV.bool false = v) (gAnd (inR i3 (List.length s0)) (ifP (decide ((↑(UInt8.toNat (List.getD s0 (Int.toNat i3) 0)) : Int) > 126)) (AV.bool false = v) (ToEnd cfg 82 (bodyOf Tryz.f82) (RetIs Tryz.prog Tryz.f82 v) [Fm.code [0, 1, 0, 1], Fm.block 0, Fm.code [1, 1]] XT.normal [(0, true, AV.str s0), (3, true, AV.int IntKind.i64 (IntKind.wrap IntKind.i64 (i3 + 1)))] []))))) (AV.bool (decide ((↑(List.length s0) : Int) > 0)) = v)) : ToEnd cfg 82 (bodyOf Tryz.f82) (RetIs Tryz.prog Tryz.f82 v) ([.code [0, 1, 0, 1], Fm.block 0, Fm.code [1, 1]]) .normal ([(0, true, AV.str s0), (3, true, AV.int IntKind.i64 i3)]) ([]) := by
  exact ends_round (pl := ⟨[[0, 1, 0, 1]], []⟩) hT 100000 (by kernel_rfl) (unr_use H (by kernel_rfl))

theorem t90b {v : AV}  {s0 : List UInt8} {i3 : Int} (hT : TabOk cfg (ctab [])) (H : ifP (decide (i3 < (↑(List.length s0) : Int))) (gAnd (inR i3 (List.length s0)) (ifP ((↑(UInt8.toNat (List.getD s0 (Int.toNat i3) 0)) : Int) != 9) (gAnd (inR i3 (List.length s0)) (ifP (decide ((↑(UInt8.toNat (List.getD s0 (Int.toNat i3) 0)) : Int) < 32)) (AV.bool false = v) (gAnd (inR i3 (List.length s0)) (ifP ((↑(UInt8.toNat (List.getD s0 (Int.toNat i3) 0)) : Int) == 127) (AV.bool false = v) (ToEnd cfg 90 (bodyOf Tryz.f90) (RetIs Tryz.prog Tryz.f90 v) [Fm.code [0, 1, 0, 1], Fm.block 0, Fm.code [1, 1]] XT.normal [(0, true, AV.str s0), (3, true, AV.int IntKind.i64 (IntKind.wrap IntKind.i64 (i3 + 1)))] []))))) (gAnd (inR i3 (List.length s0)) (ifP ((↑(UInt8.toNat (List.getD s0 (Int.toNat i3) 0)) : Int) == 127) (AV.bool false = v) (ToEnd cfg 90 (bodyOf Tryz.f90) (RetIs Tryz.prog Tryz.f90 v) [Fm.code [0, 1, 0, 1], Fm.block 0, Fm.code [1, 1]] XT.normal [(0, true, AV.str s0), (3, true, AV.int IntKind.i64 (IntKind.wrap IntKind.i64 (i3 + 1)))] []))))) (AV.bool true = v)) : ToEnd cfg 90 (bodyOf Tryz.f90) (RetIs Tryz.prog Tryz.f90 v) ([.code [0, 1, 0, 1], Fm.block 0, Fm.code [1, 1]]) .normal ([(0, true, AV.str s0), (3, true, AV.int IntKind.i64 i3)]) ([]) := by
  exact ends_round (pl := ⟨[[0, 1, 0, 1]], []⟩) hT 100000 (by kernel_rfl) (unr_use H (by kernel_rfl))

theorem t74b {v : AV}  {s0 : List UInt8} {s1 : List UInt8} {i9 : Int} {i10 : Int} (hT : TabOk cfg (ctab [])) (H : ifP (decide (i10 < i9)) (ToEnd cfg 74 (bodyOf Tryz.f74) (RetIs Tryz.prog Tryz.f74 v) [Fm.code [0, 1, 0, 1, 1, 0, 0, 1, 1, 0, 0, 1, 0, 1], Fm.block 2, Fm.code [1, 1, 1, 0, 0, 1, 1, 0, 0, 1, 0, 1], Fm.block 1, Fm.code [1, 1, 1, 0, 0, 1, 0, 1], Fm.loop [0, 1, 0, 1] 0, Fm.block 0, Fm.code [1, 1]] XT.normal [(0, true, AV.str s0), (1, true, AV.str s1), (5, true, AV.int IntKind.i64 i10), (6, true, AV.bool false), (7, true, AV.int IntKind.i64 0), (9, true, AV.int IntKind.i64 i9), (10, true, AV.int IntKind.i64 i10)] []) (AV.bool true = v)) : ToEnd cfg 74 (bodyOf Tryz.f74) (RetIs Tryz.prog Tryz.f74 v) ([.code [0, 1, 0, 1], Fm.block 0, Fm.code [1, 1]]) .normal ([(0, true, AV.str s0), (1, true, AV.str s1), (9, true, AV.int IntKind.i64 i9), (10, true, AV.int IntKind.i64 i10)]) ([]) := by
  exact ends_round (pl := ⟨[[0, 1, 0, 1], [0, 1, 0, 1, 1, 0, 0, 1, 1, 0, 0, 1, 0, 1]], []⟩) hT 100000 (by kernel_rfl) (unr_use H (by kernel_rfl))

theorem t74c {v : AV}  {s0 : List UInt8} {s1 : List UInt8} {i9 : Int} {i10 : Int} {i5 : Int} {b6 : Bool} {i7 : Int} (hT : TabOk cfg (ctab [])) (H : ifP (decide (i7 < (↑(List.length s0) : Int))) (ifP b6 (ToEnd cfg 74 (bodyOf Tryz.f74) (RetIs Tryz.prog Tryz.f74 v) [Fm.code [0, 1, 0, 1, 1, 0, 0, 1, 1, 0, 0, 1, 0, 1], Fm.block 2, Fm.code [1, 1, 1, 0, 0, 1, 1, 0, 0, 1, 0, 1], Fm.block 1, Fm.code [1, 1, 1, 0, 0, 1, 0, 1], Fm.loop [0, 1, 0, 1] 0, Fm.block 0, Fm.code [1, 1]] XT.normal [(0, true, AV.str s0), (1, true, AV.str s1), (5, true, AV.int IntKind.i64 i5), (6, true, AV.bool true), (7, true, AV.int IntKind.i64 (IntKind.wrap IntKind.i64 (i7 + 2))), (9, true, AV.int IntKind.i64 i9), (10, true, AV.int IntKind.i64 i10)] []) (gAnd (inR i5 (List.length s1)) (gAnd (inR i7 (List.length s0)) (ifP (decide ((↑(UInt8.toNat (List.getD s1 (Int.toNat i5) 0)) : Int) ≥ (↑(UInt8.toNat (List.getD s0 (Int.toNat i7) 0)) : Int))) (gAnd (inR i5 (List.length s1)) (gAnd (inR (IntKind.wrap IntKind.i64 (i7 + 1)) (List.length s0)) (ToEnd cfg 74 (bodyOf Tryz.f74) (RetIs Tryz.prog Tryz.f74 v) [Fm.code [0, 1, 0, 1, 1, 0, 0, 1, 1, 0, 0, 1, 0, 1], Fm.block 2, Fm.code [1, 1, 1, 0, 0, 1, 1, 0, 0, 1, 0, 1], Fm.block 1, Fm.code [1, 1, 1, 0, 0, 1, 0, 1], Fm.loop [0, 1, 0, 1] 0, Fm.block 0, Fm.code [1, 1]] XT.normal [(0, true, AV.str s0), (1, true, AV.str s1), (5, true, AV.int IntKind.i64 i5), (6, true, AV.bool (decide ((↑(UInt8.toNat (List.getD s1 (Int.toNat i5) 0)) : Int) ≤ (↑(UInt8.toNat (List.getD s0 (Int.toNat (IntKind.wrap IntKind.i64 (i7 + 1))) 0)) : Int)))), (7, true, AV.int IntKind.i64 (IntKind.wrap IntKind.i64 (i7 + 2))), (9, true, AV.int IntKind.i64 i9), (10, true, AV.int IntKind.i64 i10)] []))) (ToEnd cfg 74 (bodyOf Tryz.f74) (RetIs Tryz.prog Tryz.f74 v) [Fm.code [0, 1, 0, 1, 1, 0, 0, 1, 1, 0, 0, 1, 0, 1], Fm.block 2, Fm.code [1, 1, 1, 0, 0, 1, 1, 0, 0, 1, 0, 1], Fm.block 1, Fm.code [1, 1, 1, 0, 0, 1, 0, 1], Fm.loop [0, 1, 0, 1] 0, Fm.block 0, Fm.code [1, 1]] XT.normal [(0, true, AV.str s0), (1, true, AV.str s1), (5, true, AV.int IntKind.i64 i5), (6, true, AV.bool false), (7, true, AV.int IntKind.i64 (IntKind.wrap IntKind.i64 (i7 + 2))), (9, true, AV.int IntKind.i64 i9), (10, true, AV.int IntKind.i64 i10)] []))))) (ifP (!b6) (AV.bool false = v) (ToEnd cfg 74 (bodyOf Tryz.f74) (RetIs Tryz.prog Tryz.f74 v) [Fm.code [0, 1, 0, 1], Fm.block 0, Fm.code [1, 1]] XT.normal [(0, true, AV.str s0), (1, true, AV.str s1), (9, true, AV.int IntKind.i64 i9), (10, true, AV.int IntKind.i64 (IntKind.wrap IntKind.i64 (i10 + 1)))] []))) : ToEnd cfg 74 (bodyOf Tryz.f74) (RetIs Tryz.prog Tryz.f74 v) ([.code [0, 1, 0, 1, 1, 0, 0, 1, 1, 0, 0, 1, 0, 1], Fm.block 2, Fm.code [1, 1, 1, 0, 0, 1, 1, 0, 0, 1, 0, 1], Fm.block 1, Fm.code [1, 1, 1, 0, 0, 1, 0, 1], Fm.loop [0, 1, 0, 1] 0, Fm.block 0, Fm.code [1, 1]]) .normal ([(0, true, AV.str s0), (1, true, AV.str s1), (5, true, AV.int IntKind.i64 i5), (6, true, AV.bool b6), (7, true, AV.int IntKind.i64 i7), (9, true, AV.int IntKind.i64 i9), (10, true, AV.int IntKind.i64 i10)]) ([]) := by
  exact ends_round (pl := ⟨[[0, 1, 0, 1], [0, 1, 0, 1, 1, 0, 0, 1, 1, 0, 0, 1, 0, 1]], []⟩) hT 100000 (by kernel_rfl) (unr_use H (by kernel_rfl))

end Go.Proofs.YtnncfdlpogjlkaaGreatDoor.Ln
end

section
namespace Go.Proofs.YtnncfdlpogjlkaaGreatDoor.Ln
open Go.Ai Go.Ai.Ln Go
set_option linter.unusedSimpArgs false
set_option linter.unusedVariables false
set_option linter.unnecessarySimpa false
set_option maxRecDepth 100000

theorem pf116 : pureFn cfg 116 Tryz.f116 := ⟨by kernel_rfl, by kernel_rfl, by kernel_rfl, by kernel_rfl, by kernel_rfl, by kernel_rfl⟩
theorem pf125 : pureFn cfg 125 Tryz.f125 := ⟨by kernel_rfl, by kernel_rfl, by kernel_rfl, by kernel_rfl, by kernel_rfl, by kernel_rfl⟩
theorem pf114 : pureFn cfg 114 Tryz.f114 := ⟨by kernel_rfl, by kernel_rfl, by kernel_rfl, by kernel_rfl, by kernel_rfl, by kernel_rfl⟩
theorem pf126 : pureFn cfg 126 Tryz.f126 := ⟨by kernel_rfl, by kernel_rfl, by kernel_rfl, by kernel_rfl, by kernel_rfl, by kernel_rfl⟩
theorem pf75 : pureFn cfg 75 Tryz.f75 := ⟨by kernel_rfl, by kernel_rfl, by kernel_rfl, by kernel_rfl, by kernel_rfl, by kernel_rfl⟩
theorem pf81 : pureFn cfg 81 Tryz.f81 := ⟨by kernel_rfl, by kernel_rfl, by kernel_rfl, by kernel_rfl, by kernel_rfl, by kernel_rfl⟩
theorem pf74 : pureFn cfg 74 Tryz.f74 := ⟨by kernel_rfl, by kernel_rfl, by kernel_rfl, by kernel_rfl, by kernel_rfl, by kernel_rfl⟩
theorem pf82 : pureFn cfg 82 Tryz.f82 := ⟨by kernel_rfl, by kernel_rfl, by kernel_rfl, by kernel_rfl, by kernel_rfl, by kernel_rfl⟩
theorem pf90 : pureFn cfg 90 Tryz.f90 := ⟨by kernel_rfl, by kernel_rfl, by kernel_rfl, by kernel_rfl, by kernel_rfl, by kernel_rfl⟩
theorem pf108 : pureFn cfg 108 Tryz.f108 := ⟨by kernel_rfl, by kernel_rfl, by kernel_rfl, by kernel_rfl, by kernel_rfl, by kernel_rfl⟩
theorem pf154 : pureFn cfg 154 Tryz.f154 := ⟨by kernel_rfl, by kernel_rfl, by kernel_rfl, by kernel_rfl, by kernel_rfl, by kernel_rfl⟩
theorem pf115 : pureFn cfg 115 Tryz.f115 := ⟨by kernel_rfl, by kernel_rfl, by kernel_rfl, by kernel_rfl, by kernel_rfl, by kernel_rfl⟩
theorem pf91 : pureFn cfg 91 Tryz.f91 := ⟨by kernel_rfl, by kernel_rfl, by kernel_rfl, by kernel_rfl, by kernel_rfl, by kernel_rfl⟩
theorem pf95 : pureFn cfg 95 Tryz.f95 := ⟨by kernel_rfl, by kernel_rfl, by kernel_rfl, by kernel_rfl, by kernel_rfl, by kernel_rfl⟩

theorem bool_av {a b : Bool} (h : a = true ↔ b = true) : AV.bool a = AV.bool b := by
  have : a = b := Bool.eq_iff_iff.2 h
  rw [this]
theorem at_pre (pre : List UInt8) (c : UInt8) (r : List UInt8) : List.getD (pre ++ c :: r) (Int.toNat (pre.length : Int)) 0 = c := by simp
theorem wrap_n {n : Nat} (h : n ≤ big) : IntKind.wrap .i64 ((n : Int) + 1) = ((n + 1 : Nat) : Int) := by
  unfold big at h; rw [wrap_in] <;> omega

theorem c116 : COk cfg 116 (byteC isDg) := by
  refine cok_pure pf116 fun vs h K ht => ?_
  obtain ⟨c, rfl, hk⟩ := ht
  refine ⟨_, hk, t116 (ctab_ok ctab_nil) ?_⟩
  repeat' refine ifP_intro (fun _ => ?_) fun _ => ?_
  all_goals (refine bool_av ?_; simp only [isDg, decide_eq_true_eq, decide_eq_false_iff_not, Bool.and_eq_true, Bool.or_eq_true, Bool.false_eq_true, eq_self_iff_true, true_iff, false_iff] at *; omega)
theorem c125 : COk cfg 125 (byteC letterB) := by
  refine cok_pure pf125 fun vs h K ht => ?_
  obtain ⟨c, rfl, hk⟩ := ht
  refine ⟨_, hk, t125 (ctab_ok ctab_nil) ?_⟩
  repeat' refine ifP_intro (fun _ => ?_) fun _ => ?_
  all_goals (refine bool_av ?_; simp only [letterB, decide_eq_true_eq, decide_eq_false_iff_not, Bool.and_eq_true, Bool.or_eq_true, Bool.false_eq_true, eq_self_iff_true, true_iff, false_iff] at *; omega)
theorem ix_nonneg : ∀ (l : List UInt8) (c : UInt8), (Lib.indexByte l c ≥ 0) ↔ l.contains c = true
  | [], c => by simp [Lib.indexByte]
  | b :: l, c => by
    have ih := ix_nonneg l c
    have hg := Lib.indexByte_ge l c
    rw [Lib.indexByte]
    by_cases h : b = c
    · subst h; simp
    · have h' : ¬c = b := fun e => h e.symm
      have hb : (b == c) = false := by simpa using h
      have hb' : (c == b) = false := by simpa using h'
      rw [List.contains_cons, hb', Bool.false_or, ← ih, hb]
      by_cases h1 : Lib.indexByte l c = -1
      · simp [h1]
      · have h2 : (Lib.indexByte l c == -1) = false := by simpa using h1
        simp only [h2, Bool.false_eq_true, if_false]
        omega
theorem c153 : COk cfg 153 ixC := by
  refine cok_prim (by kernel_rfl) (by kernel_rfl) (by kernel_rfl : cfg.prim 153 = some pByteIx) (by kernel_rfl) fun vs h K ht => ?_
  obtain ⟨s, c, rfl, hk⟩ := ht
  have := c.toNat_lt
  refine ⟨.int .i64 (Lib.indexByte s c), hk, ?_⟩
  have e : (c.toNat : Int).toNat.toUInt8 = c := by simp
  simp only [pByteIx, e]
  rw [decide_eq_true (by omega), decide_eq_true (by omega)]; rfl
theorem c114 : COk cfg 114 (byteC wordB) := by
  refine cok_pure pf114 fun vs h K ht => ?_
  obtain ⟨c, rfl, hk⟩ := ht
  refine ⟨_, hk, t114 (ctab_ok (ctab_cons c153 ctab_nil)) ?_⟩
  have hm := ix_nonneg marksB c
  generalize hq : decide (Lib.indexByte marksB c ≥ 0) = q
  have hq' : q = true ↔ marksB.contains c = true := by rw [← hq, decide_eq_true_eq]; exact hm
  repeat' refine ifP_intro (fun _ => ?_) fun _ => ?_
  all_goals first
    | refine ⟨marksB, c, rfl, ?_⟩
      rw [hq]
      refine bool_av ?_
      rw [hq']
      unfold wordB
      clear hq hq' hm
      generalize marksB.contains c = m
      cases m <;> simp only [decide_eq_true_eq, decide_eq_false_iff_not, Bool.and_eq_true, Bool.or_eq_true, Bool.false_eq_true, eq_self_iff_true, true_iff, false_iff, or_true, or_false] at * <;> omega
    | refine bool_av ?_
      simp only [wordB, decide_eq_true_eq, decide_eq_false_iff_not, Bool.and_eq_true, Bool.or_eq_true, Bool.false_eq_true, eq_self_iff_true, true_iff, false_iff] at *
      omega

theorem loop126 (c : UInt8) : ∀ (r pre : List UInt8), (pre ++ r).length ≤ big →
    ToEnd cfg 126 (bodyOf Tryz.f126) (RetIs Tryz.prog Tryz.f126 (.bool (r.contains c))) [.code [0, 1, 0, 1], .block 0, .code [1, 1]] .normal [(0, true, .int .u8 c.toNat), (1, true, .str (pre ++ r)), (5, true, .int .i64 pre.length)] [] := by
  intro r
  induction r with
  | nil =>
    intro pre hl
    refine t126b (ctab_ok ctab_nil) (ifP_intro (fun a => ?_) fun _ => rfl)
    simp at a
  | cons x r ih =>
    intro pre hl
    have hlen : pre.length ≤ big := by simp at hl; omega
    refine t126b (ctab_ok ctab_nil) (ifP_intro (fun _ => gAnd_intro (inR_of (by omega) (by simp; omega)) ?_) fun a => ?_)
    · rw [at_pre]
      refine ifP_intro (fun b => ?_) fun b => ?_
      · have : x = c := by
          have hb : (x.toNat : Int) = c.toNat := by simpa using b
          exact UInt8.toNat_inj.1 (by omega)
        subst this
        simp
      · have hne : (c == x) = false := by
          rw [beq_eq_false_iff_ne]
          rintro rfl
          simp at b
        rw [wrap_n hlen, List.contains_cons, hne, Bool.false_or]
        have := ih (pre ++ [x]) (by simpa using hl)
        simpa using this
    · simp at a; omega
theorem c126 : COk cfg 126 inC := by
  refine cok_pure pf126 fun vs h K ht => ?_
  obtain ⟨c, s, hl, rfl, hk⟩ := ht
  exact ⟨_, hk, t126a (ctab_ok ctab_nil) (loop126 c s [] hl)⟩

theorem loop75 : ∀ (r pre : List UInt8), (pre ++ r).length ≤ big →
    ToEnd cfg 75 (bodyOf Tryz.f75) (RetIs Tryz.prog Tryz.f75 (.bool (r.all wordB && !(pre ++ r).isEmpty))) [.code [0, 1, 0, 1], .block 0, .code [1, 1]] .normal [(0, true, .str (pre ++ r)), (5, true, .int .i64 (pre ++ r).length), (6, true, .int .i64 pre.length)] [] := by
  have hT : TabOk cfg (ctab [(114, byteC wordB)]) := ctab_ok (ctab_cons c114 ctab_nil)
  intro r
  induction r with
  | nil =>
    intro pre hl
    refine t75b hT (ifP_intro (fun a => ?_) fun _ => ?_)
    · simp at a
    · refine bool_av ?_
      cases pre <;> simp
  | cons x r ih =>
    intro pre hl
    have hlen : pre.length ≤ big := by simp at hl; omega
    refine t75b hT (ifP_intro (fun _ => gAnd_intro (inR_of (by omega) (by simp; omega)) ⟨x, by rw [at_pre], ifP_intro (fun b => ?_) fun b => ?_⟩) fun a => ?_)
    · simp at b
      simp [b]
    · simp at b
      rw [wrap_n hlen]
      have := ih (pre ++ [x]) (by simpa using hl)
      simpa [b] using this
    · simp at a; omega
theorem c75 : COk cfg 75 (strC tokenB) := by
  refine cok_pure pf75 fun vs h K ht => ?_
  obtain ⟨s, hl, rfl, hk⟩ := ht
  exact ⟨_, hk, t75a (ctab_ok (ctab_cons c114 ctab_nil)) (loop75 s [] hl)⟩

theorem word_letter (c : UInt8) : wordB c = (letterB c || marksB.contains c) := by
  unfold wordB letterB
  cases decide (97 ≤ c.toNat) && decide (c.toNat ≤ 122) <;> cases decide (65 ≤ c.toNat) && decide (c.toNat ≤ 90) <;> simp
theorem loop81 : ∀ (r pre : List UInt8), (pre ++ r).length ≤ big →
    ToEnd cfg 81 (bodyOf Tryz.f81) (RetIs Tryz.prog Tryz.f81 (.bool (r.all wordB && !(pre ++ r).isEmpty))) [.code [0, 1, 0, 1], .block 0, .code [1, 1]] .normal [(0, true, .str (pre ++ r)), (3, true, .int .i64 pre.length)] [] := by
  have hT : TabOk cfg (ctab [(125, byteC letterB), (126, inC)]) := ctab_ok (ctab_cons c125 (ctab_cons c126 ctab_nil))
  intro r
  induction r with
  | nil =>
    intro pre hl
    refine t81b hT (ifP_intro (fun a => ?_) fun _ => ?_)
    · simp at a
    · refine bool_av ?_
      cases pre <;> simp
  | cons x r ih =>
    intro pre hl
    have hlen : pre.length ≤ big := by simp at hl; omega
    have hin : inR (pre.length : Int) (pre ++ x :: r).length = true := inR_of (by omega) (by simp; omega)
    have hnext := ih (pre ++ [x]) (by simpa using hl)
    refine t81b hT (ifP_intro (fun _ => gAnd_intro hin ⟨x, by rw [at_pre], ifP_intro (fun b => gAnd_intro hin ⟨x, marksB, by decide, by rw [at_pre]; rfl, ifP_intro (fun d => ?_) fun d => ?_⟩) fun b => ?_⟩) fun a => ?_)
    · have b' : letterB x = false := by simpa using b
      have d' : marksB.contains x = false := by simpa using d
      have : wordB x = false := by rw [word_letter, b', d']; rfl
      simp [this]
    · have d' : marksB.contains x = true := by simpa using d
      have hw : wordB x = true := by rw [word_letter, d', Bool.or_true]
      rw [wrap_n hlen]
      simpa [hw] using hnext
    · have b' : letterB x = true := by simpa using b
      have hw : wordB x = true := by rw [word_letter, b', Bool.true_or]
      rw [wrap_n hlen]
      simpa [hw] using hnext
    · simp at a; omega
theorem c81 : COk cfg 81 (strC tokenB) := by
  refine cok_pure pf81 fun vs h K ht => ?_
  obtain ⟨s, hl, rfl, hk⟩ := ht
  exact ⟨_, hk, t81a (ctab_ok (ctab_cons c125 (ctab_cons c126 ctab_nil))) (loop81 s [] hl)⟩

theorem loop82 : ∀ (r pre : List UInt8), (pre ++ r).length ≤ big →
    ToEnd cfg 82 (bodyOf Tryz.f82) (RetIs Tryz.prog Tryz.f82 (.bool (r.all targetB && !(pre ++ r).isEmpty))) [.code [0, 1, 0, 1], .block 0, .code [1, 1]] .normal [(0, true, .str (pre ++ r)), (3, true, .int .i64 pre.length)] [] := by
  have hT : TabOk cfg (ctab []) := ctab_ok ctab_nil
  intro r
  induction r with
  | nil =>
    intro pre hl
    refine t82b hT (ifP_intro (fun a => ?_) fun _ => ?_)
    · simp at a
    · refine bool_av ?_
      cases pre <;> simp
  | cons x r ih =>
    intro pre hl
    have hlen : pre.length ≤ big := by simp at hl; omega
    have hin : inR (pre.length : Int) (pre ++ x :: r).length = true := inR_of (by omega) (by simp; omega)
    have hnext := ih (pre ++ [x]) (by simpa using hl)
    refine t82b hT (ifP_intro (fun _ => gAnd_intro hin ?_) fun a => ?_)
    · rw [at_pre]
      refine ifP_intro (fun b => ?_) fun b => gAnd_intro hin (ifP_intro (fun d => ?_) fun d => ?_)
      · have : targetB x = false := by
          simp only [decide_eq_true_eq] at b
          simp only [targetB, Bool.and_eq_false_iff, decide_eq_false_iff_not]; omega
        simp [this]
      · have : targetB x = false := by
          simp only [decide_eq_true_eq] at d
          simp only [targetB, Bool.and_eq_false_iff, decide_eq_false_iff_not]; omega
        simp [this]
      · have : targetB x = true := by
          simp only [decide_eq_false_iff_not] at b d
          simp only [targetB, Bool.and_eq_true, decide_eq_true_eq]; omega
        rw [wrap_n hlen]
        simpa [this] using hnext
    · simp at a; omega
theorem c82 : COk cfg 82 (strC fun s => s.all targetB && !s.isEmpty) := by
  refine cok_pure pf82 fun vs h K ht => ?_
  obtain ⟨s, hl, rfl, hk⟩ := ht
  exact ⟨_, hk, t82a (ctab_ok ctab_nil) (loop82 s [] hl)⟩

theorem loop90 : ∀ (r pre : List UInt8), (pre ++ r).length ≤ big →
    ToEnd cfg 90 (bodyOf Tryz.f90) (RetIs Tryz.prog Tryz.f90 (.bool (r.all reasonB))) [.code [0, 1, 0, 1], .block 0, .code [1, 1]] .normal [(0, true, .str (pre ++ r)), (3, true, .int .i64 pre.length)] [] := by
  have hT : TabOk cfg (ctab []) := ctab_ok ctab_nil
  intro r
  induction r with
  | nil =>
    intro pre hl
    refine t90b hT (ifP_intro (fun a => ?_) fun _ => rfl)
    simp at a
  | cons x r ih =>
    intro pre hl
    have hlen : pre.length ≤ big := by simp at hl; omega
    have hin : inR (pre.length : Int) (pre ++ x :: r).length = true := inR_of (by omega) (by simp; omega)
    have hnext := ih (pre ++ [x]) (by simpa using hl)
    have hlt := x.toNat_lt
    have h9 : (x == 9) = decide (x.toNat = 9) := by
      rw [Bool.eq_iff_iff, beq_iff_eq, decide_eq_true_eq, ← UInt8.toNat_inj]; rfl
    have step : reasonB x = true → ToEnd cfg 90 (bodyOf Tryz.f90) (RetIs Tryz.prog Tryz.f90 (.bool ((x :: r).all reasonB))) [.code [0, 1, 0, 1], .block 0, .code [1, 1]] .normal [(0, true, .str (pre ++ x :: r)), (3, true, .int .i64 (IntKind.wrap .i64 ((pre.length : Int) + 1)))] [] := fun hb => by
      rw [wrap_n hlen]
      simpa [hb] using hnext
    have no : reasonB x = false → AV.bool false = AV.bool ((x :: r).all reasonB) := fun hb => by simp [hb]
    refine t90b hT (ifP_intro (fun _ => gAnd_intro hin ?_) fun a => ?_)
    · rw [at_pre]
      refine ifP_intro (fun b => gAnd_intro hin (ifP_intro (fun d => no ?_) fun d => gAnd_intro hin (ifP_intro (fun e => no ?_) fun e => step ?_))) fun b => gAnd_intro hin (ifP_intro (fun e => no ?_) fun e => step ?_)
      all_goals
        simp only [reasonB, h9, bne_iff_ne, ne_eq, decide_eq_true_eq, decide_eq_false_iff_not, beq_iff_eq, beq_eq_false_iff_ne, bne_eq_false_iff_eq, Bool.or_eq_false_iff, Bool.or_eq_true, Bool.and_eq_false_iff, Bool.and_eq_true] at *
        omega
    · simp at a; omega
theorem c90 : COk cfg 90 (strC fun s => s.all reasonB) := by
  refine cok_pure pf90 fun vs h K ht => ?_
  obtain ⟨s, hl, rfl, hk⟩ := ht
  exact ⟨_, hk, t90a (ctab_ok ctab_nil) (loop90 s [] hl)⟩
end Go.Proofs.YtnncfdlpogjlkaaGreatDoor.Ln
end

section
namespace Go.Proofs.YtnncfdlpogjlkaaGreatDoor.Ln
open Go.Ai Go.Ai.Ln Go
set_option linter.unusedSimpArgs false
set_option linter.unusedVariables false
set_option linter.unnecessarySimpa false
set_option maxRecDepth 100000

theorem in24 {l s : List UInt8} {c : UInt8} {v : AV} {i : Nat} (hi : i < s.length) (hs : s.length ≤ big) (hc : List.getD s i 0 = c) (hl : l.length ≤ 6) {res : Bool} (hno : res = false → AV.bool false = v)
    (hyes : res = true → ToEnd cfg 74 (bodyOf Tryz.f74) (RetIs Tryz.prog Tryz.f74 v) [.code [0, 1, 0, 1], .block 0, .code [1, 1]] .normal [(0, true, .str l), (1, true, .str s), (9, true, .int .i64 s.length), (10, true, .int .i64 ((i + 1 : Nat) : Int))] []) :
    ∀ (n : Nat) (lr lp : List UInt8) (b : Bool), lr.length = 2 * n → l = lp ++ lr → (b || inL lr c) = res →
    ToEnd cfg 74 (bodyOf Tryz.f74) (RetIs Tryz.prog Tryz.f74 v) [.code [0, 1, 0, 1, 1, 0, 0, 1, 1, 0, 0, 1, 0, 1], .block 2, .code [1, 1, 1, 0, 0, 1, 1, 0, 0, 1, 0, 1], .block 1, .code [1, 1, 1, 0, 0, 1, 0, 1], .loop [0, 1, 0, 1] 0, .block 0, .code [1, 1]] .normal
      [(0, true, .str l), (1, true, .str s), (5, true, .int .i64 i), (6, true, .bool b), (7, true, .int .i64 lp.length), (9, true, .int .i64 s.length), (10, true, .int .i64 i)] [] := by
  have hT : TabOk cfg (ctab []) := ctab_ok ctab_nil
  intro n
  induction n with
  | zero =>
    intro lr lp b hn hl' hb
    obtain rfl : lr = [] := List.eq_nil_of_length_eq_zero (by omega)
    rw [List.append_nil] at hl'
    subst hl'
    simp only [inL, Bool.or_false] at hb
    subst hb
    refine t74c hT (ifP_intro (fun a => ?_) fun _ => ifP_intro (fun a => hno (by simpa using a)) fun a => ?_)
    · simp at a
    · rw [wrap_n (by omega)]
      exact hyes (by simpa using a)
  | succ n ih =>
    intro lr lp b hn hl' hb
    match lr, hn with
    | x :: y :: lr, hn =>
      have hlen : lp.length + 2 + lr.length = l.length := by rw [hl']; simp; omega
      have hw2 : IntKind.wrap .i64 ((lp.length : Int) + 2) = (((lp ++ [x, y]).length : Nat) : Int) := by
        rw [wrap_in (by omega) (by omega)]; simp
      have hw1 : IntKind.wrap .i64 ((lp.length : Int) + 1) = ((lp.length + 1 : Nat) : Int) := wrap_n (by unfold big; omega)
      have hx : List.getD l (Int.toNat (lp.length : Int)) 0 = x := by rw [hl']; exact at_pre _ _ _
      have hy : List.getD l (Int.toNat ((lp.length + 1 : Nat) : Int)) 0 = y := by
        have := at_pre (lp ++ [x]) y lr
        rw [hl']
        simpa using this
      have hcc : List.getD s (Int.toNat (i : Int)) 0 = c := by simpa using hc
      have hn' : lr.length = 2 * n := by simp at hn; omega
      have hl2 : l = (lp ++ [x, y]) ++ lr := by rw [hl']; simp
      have hin : inR (i : Int) s.length = true := inR_of (by omega) (by omega)
      refine t74c hT (ifP_intro (fun _ => ?_) fun a => ?_)
      · rw [hw2]
        refine ifP_intro (fun a => ?_) fun a => ?_
        · subst a
          exact ih lr (lp ++ [x, y]) true hn' hl2 (by simpa using hb)
        · subst a
          rw [hw1, hx, hy, hcc]
          simp only [inL, Bool.false_or] at hb
          refine gAnd_intro hin (gAnd_intro (inR_of (by omega) (by omega)) (ifP_intro (fun d => gAnd_intro hin (gAnd_intro (inR_of (by omega) (by omega)) ?_)) fun d => ?_))
          · refine ih lr (lp ++ [x, y]) _ hn' hl2 ?_
            rw [← hb]
            simp only [decide_eq_true_eq] at d
            rw [decide_eq_true (p := x.toNat ≤ c.toNat) (by omega), Bool.true_and]
            congr 1
            rw [Bool.eq_iff_iff, decide_eq_true_eq, decide_eq_true_eq]
            omega
          · refine ih lr (lp ++ [x, y]) _ hn' hl2 ?_
            rw [← hb]
            simp only [decide_eq_false_iff_not] at d
            rw [decide_eq_false (p := x.toNat ≤ c.toNat) (by omega), Bool.false_and]
      · simp only [decide_eq_false_iff_not] at a; omega
theorem loop74 {l : List UInt8} (hl : l.length ≤ 6) (he : l.length % 2 = 0) : ∀ (r pre : List UInt8), (pre ++ r).length ≤ big →
    ToEnd cfg 74 (bodyOf Tryz.f74) (RetIs Tryz.prog Tryz.f74 (.bool (r.all (inL l)))) [.code [0, 1, 0, 1], .block 0, .code [1, 1]] .normal [(0, true, .str l), (1, true, .str (pre ++ r)), (9, true, .int .i64 (pre ++ r).length), (10, true, .int .i64 pre.length)] [] := by
  have hT : TabOk cfg (ctab []) := ctab_ok ctab_nil
  intro r
  induction r with
  | nil =>
    intro pre hp
    refine t74b hT (ifP_intro (fun a => ?_) fun _ => rfl)
    simp at a
  | cons x r ih =>
    intro pre hp
    have hlen : pre.length < (pre ++ x :: r).length := by simp
    refine t74b hT (ifP_intro (fun _ => ?_) fun a => ?_)
    · refine in24 (c := x) (i := pre.length) (res := inL l x) hlen hp (by simp) hl (fun h => by simp [h]) (fun h => ?_) (l.length / 2) l [] false (by omega) rfl (Bool.false_or _)
      have := ih (pre ++ [x]) (by simpa using hp)
      simpa [h] using this
    · simp only [decide_eq_false_iff_not] at a; omega
theorem c74 : COk cfg 74 holdsC := by
  refine cok_pure pf74 fun vs h K ht => ?_
  obtain ⟨l, s, h1, h2, h3, rfl, hk⟩ := ht
  exact ⟨_, hk, t74a (ctab_ok ctab_nil) (loop74 h1 h2 s [] h3)⟩
theorem in_target (c : UInt8) : inL [33, 126] c = targetB c := by simp [inL, targetB]
theorem in_digit (c : UInt8) : inL [48, 57] c = isDg c := by simp [inL, isDg]
theorem in_reason (c : UInt8) : inL [9, 9, 32, 126, 128, 255] c = reasonB c := by
  have hlt := c.toNat_lt
  have h9 : (c == 9) = decide (c.toNat = 9) := by
    rw [Bool.eq_iff_iff, beq_iff_eq, decide_eq_true_eq, ← UInt8.toNat_inj]; rfl
  unfold reasonB
  rw [h9, Bool.eq_iff_iff]
  simp [inL]
  omega

theorem pref_take : ∀ (x s : List UInt8), x.isPrefixOf s = (decide (x.length ≤ s.length) && (s.take x.length == x))
  | [], s => by simp
  | a :: x, [] => by simp
  | a :: x, b :: s => by
    have := pref_take x s
    simp only [List.isPrefixOf_cons_cons, this, List.length_cons, List.take_succ_cons, List.cons_beq_cons]
    rw [show (decide (x.length + 1 ≤ s.length + 1)) = decide (x.length ≤ s.length) from by simp, show (a == b) = (b == a) from by rw [Bool.eq_iff_iff]; simp; exact eq_comm]
    cases (b == a) <;> cases decide (x.length ≤ s.length) <;> simp
theorem c108 : COk cfg 108 Ai.Ln.prefC := by
  refine cok_pure pf108 fun vs h K ht => ?_
  obtain ⟨s, x, rfl, hk⟩ := ht
  refine ⟨_, hk, t108 (ctab_ok ctab_nil) (ifP_intro (fun a => gAnd_intro ?_ ?_) fun a => ?_)⟩
  · simp [cutOb] at a ⊢; omega
  · simp at a
    rw [pref_take, decide_eq_true (by omega), Bool.true_and]
    simp [cutL]
  · simp at a
    rw [pref_take, decide_eq_false (by omega), Bool.false_and]
theorem pref_le {x s : List UInt8} (h : x.isPrefixOf s = true) : x.length ≤ s.length := by
  rw [pref_take, Bool.and_eq_true, decide_eq_true_eq] at h; exact h.1
theorem c154 : COk cfg 154 cutPC := by
  refine cok_pure pf154 fun vs h K ht => ?_
  obtain ⟨s, x, rfl, hk⟩ := ht
  refine ⟨_, hk, t154 (ctab_ok (ctab_cons c108 ctab_nil)) ⟨s, x, rfl, ifP_intro (fun a => ?_) fun a => ?_⟩⟩
  · have a' : x.isPrefixOf s = false := by simpa using a
    simp only [cutP, a', cond_false]
  · have a' : x.isPrefixOf s = true := by simpa using a
    refine gAnd_intro (by have := pref_le a'; simp [cutOb]; omega) ?_
    simp only [cutP, a', cond_true, cutL, Int.toNat_natCast]
theorem c115 : COk cfg 115 cutPC := by
  refine cok_pure pf115 fun vs h K ht => ?_
  obtain ⟨s, x, rfl, hk⟩ := ht
  exact ⟨_, hk, t115 (ctab_ok (ctab_cons c154 ctab_nil)) ⟨s, x, rfl, rfl⟩⟩

theorem c91 : COk cfg 91 doneC := by
  refine cok_pure pf91 fun vs h K ht => ?_
  obtain ⟨mi, bad, s, hs, rfl, hk⟩ := ht
  refine ⟨_, hk, t91 (ctab_ok ctab_nil) ?_⟩
  unfold doneB
  refine ifP_intro (fun a => ?_) fun a => ifP_intro (fun b => ?_) fun b => ifP_intro (fun c => ?_) fun c => ifP_intro (fun d => ?_) fun d => ?_
  · rw [if_pos (by simp [a])]
  · rw [if_pos (by simp at b; simp [b])]
  · rw [if_pos (by simp at c; simp [c])]
  · simp at b c d
    rw [if_neg (by simp [a]; omega), if_pos (by omega)]
  · simp at b c d
    rw [if_neg (by simp [a]; omega), if_neg (by omega)]

theorem c95 : COk cfg 95 versC := by
  refine cok_pure pf95 fun vs h K ht => ?_
  obtain ⟨n, rfl, hk⟩ := ht
  unfold verM at hk
  refine ⟨_, hk, t95 (ctab_ok ctab_nil) (ifP_intro (fun a => ?_) fun a => ?_)⟩
  · have : n = 0 := by simpa using a
    rw [if_pos this]; rfl
  · have : ¬n = 0 := by simpa using a
    rw [if_neg this]; rfl
theorem ver_not8 {s : List UInt8} (h : s.length ≠ 8) : verOf s = none := by
  cases hv : verOf s with
  | none => rfl
  | some p =>
    have := (verOf_some (a := p.1) (b := p.2) hv).1
    rw [this] at h
    exact absurd rfl h

theorem idx_blank : ∀ (s : List UInt8) (i : Nat), (idxB s [32] i = -1 ∧ cutB s = (s, [], false)) ∨ ∃ m r, s = m ++ 32 :: r ∧ idxB s [32] i = ((i + m.length : Nat) : Int) ∧ cutB s = (m, r, true)
  | [], i => .inl ⟨rfl, rfl⟩
  | c :: s, i => by
    rw [idxB]
    by_cases h : c = 32
    · subst h
      exact .inr ⟨[], s, rfl, by simp, by simp [cutB]⟩
    · have hp : List.isPrefixOf [32] (c :: s) = false := by
        simp only [List.isPrefixOf_cons_cons, List.isPrefixOf_nil_left, Bool.and_true]
        rw [beq_eq_false_iff_ne]
        exact fun e => h e.symm
      rw [hp]
      rcases idx_blank s (i + 1) with ⟨h1, h2⟩ | ⟨m, r, h1, h2, h3⟩
      · exact .inl ⟨h1, by simp only [cutB, if_neg h, h2]⟩
      · refine .inr ⟨c :: m, r, by rw [h1]; rfl, ?_, by simp only [cutB, if_neg h, h3]⟩
        show idxB s [32] (i + 1) = _
        rw [h2]; simp; omega
theorem cutS_blank (s : List UInt8) : cutS s [32] = cutB s := by
  unfold cutS
  rcases idx_blank s 0 with ⟨h1, h2⟩ | ⟨m, r, h1, h2, h3⟩
  · rw [h1, h2]; rfl
  · rw [h2, h3]
    rw [decide_eq_true (by omega)]
    simp [h1]
theorem c70 : COk cfg 70 cutC := by
  refine cok_prim (by kernel_rfl) (by kernel_rfl) (by kernel_rfl : cfg.prim 70 = some pCut) (by kernel_rfl) fun vs h K ht => ?_
  obtain ⟨s, hs, rfl, hk⟩ := ht
  refine ⟨.tup [.str (cutB s).1, .str (cutB s).2.1, .bool (cutB s).2.2], hk, ?_⟩
  simp only [pCut, cutS_blank]
  have : Nat.blt s.length 4294967281 = true := Nat.ble_eq_true_of_le (by unfold big at hs; omega)
  rw [this]
theorem c92 : COk cfg 92 itoaC := by
  refine cok_prim (by kernel_rfl) (by kernel_rfl) (by kernel_rfl : cfg.prim 92 = some pItoa) (by kernel_rfl) fun vs h K ht => ?_
  obtain ⟨n, h1, h2, rfl, hk⟩ := ht
  refine ⟨.str (itoaS n), hk, ?_⟩
  simp only [pItoa]
  rw [decide_eq_true h1, decide_eq_true h2]; rfl
theorem c88 : COk cfg 88 atoiC := by
  refine cok_prim (by kernel_rfl) (by kernel_rfl) (by kernel_rfl : cfg.prim 88 = some pAtoi) (by kernel_rfl) fun vs h K ht => ?_
  obtain ⟨s, hs, rfl, hk⟩ := ht
  refine ⟨.tup [.int .i64 (atoiV s), .top], hk, ?_⟩
  simp only [pAtoi]
  have : Nat.blt s.length 4294967281 = true := Nat.ble_eq_true_of_le (by unfold big at hs; omega)
  rw [this]
end Go.Proofs.YtnncfdlpogjlkaaGreatDoor.Ln
end

section
namespace Go.Proofs.YtnncfdlpogjlkaaGreatDoor.Ln
open Go.Ai Go.Ai.Ln Go
set_option maxRecDepth 100000
set_option linter.unusedVariables false
theorem t72_1 {K : AV → Hp → Prop} {t7000 t7001 t7002 t7003 t7004 : Nat} {k2 k3 : IntKind} {a b r : List UInt8} {c e : Int} {bad : Bool}  (hT : TabOk cfg (ctab [(70, cutC)])) (H : ∃ (s1 : List UInt8), List.length s1 ≤ 100000 ∧ [AV.str r, AV.str [32]] = [AV.str s1, AV.str [32]] ∧ ifP bad (K (AV.str (Prod.fst (cutB s1))) [Blk.mem t7000 [AV.str a], Blk.mem t7001 [AV.str b], Blk.mem t7002 [AV.int k2 c], Blk.mem t7003 [AV.int k3 e], Blk.mem t7004 [AV.str (Prod.fst (Prod.snd (cutB s1))), AV.bool true]]) (K (AV.str (Prod.fst (cutB s1))) [Blk.mem t7000 [AV.str a], Blk.mem t7001 [AV.str b], Blk.mem t7002 [AV.int k2 c], Blk.mem t7003 [AV.int k3 e], Blk.mem t7004 [AV.str (Prod.fst (Prod.snd (cutB s1))), AV.bool !Prod.snd (Prod.snd (cutB s1))]])) : ToEnd cfg 72 (bodyOf Tryz.f72) (RetIn Tryz.prog Tryz.f72 5 K) ([.code []]) .normal ([(0, true, .ptr 4 0)]) ([.mem t7000 [.str a], .mem t7001 [.str b], .mem t7002 [.int k2 c], .mem t7003 [.int k3 e], .mem t7004 [.str r, .bool bad]]) := by
  exact unr_ok (pl := ⟨[], []⟩) hT 100000 _ _ _ _ (unr_use H (by kernel_rfl))

theorem t72_2 {K : AV → Hp → Prop} {t7000 t7001 t7002 t7003 t7004 : Nat} {k0 k2 k3 : IntKind} {b r : List UInt8} {a c e : Int} {bad : Bool}  (hT : TabOk cfg (ctab [(70, cutC)])) (H : ∃ (s1 : List UInt8), List.length s1 ≤ 100000 ∧ [AV.str r, AV.str [32]] = [AV.str s1, AV.str [32]] ∧ ifP bad (K (AV.str (Prod.fst (cutB s1))) [Blk.mem t7000 [AV.int k0 a], Blk.mem t7001 [AV.str b], Blk.mem t7002 [AV.int k2 c], Blk.mem t7003 [AV.int k3 e], Blk.mem t7004 [AV.str (Prod.fst (Prod.snd (cutB s1))), AV.bool true]]) (K (AV.str (Prod.fst (cutB s1))) [Blk.mem t7000 [AV.int k0 a], Blk.mem t7001 [AV.str b], Blk.mem t7002 [AV.int k2 c], Blk.mem t7003 [AV.int k3 e], Blk.mem t7004 [AV.str (Prod.fst (Prod.snd (cutB s1))), AV.bool !Prod.snd (Prod.snd (cutB s1))]])) : ToEnd cfg 72 (bodyOf Tryz.f72) (RetIn Tryz.prog Tryz.f72 5 K) ([.code []]) .normal ([(0, true, .ptr 4 0)]) ([.mem t7000 [.int k0 a], .mem t7001 [.str b], .mem t7002 [.int k2 c], .mem t7003 [.int k3 e], .mem t7004 [.str r, .bool bad]]) := by
  exact unr_ok (pl := ⟨[], []⟩) hT 100000 _ _ _ _ (unr_use H (by kernel_rfl))

theorem t73_1 {K : AV → Hp → Prop} {t7000 t7001 t7002 t7003 t7004 : Nat} {k2 k3 : IntKind} {a b r : List UInt8} {c e : Int} {bad : Bool} {l s : List UInt8} (hT : TabOk cfg (ctab [(74, holdsC)])) (H : ifP bad (K (AV.tup []) [Blk.mem t7000 [AV.str a], Blk.mem t7001 [AV.str b], Blk.mem t7002 [AV.int k2 c], Blk.mem t7003 [AV.int k3 e], Blk.mem t7004 [AV.str r, AV.bool true]]) (∃ (l1 : List UInt8) (s2 : List UInt8), List.length l1 ≤ 6 ∧ List.length l1 % 2 = 0 ∧ List.length s2 ≤ 100000 ∧ [AV.str l, AV.str s] = [AV.str l1, AV.str s2] ∧ K (AV.tup []) [Blk.mem t7000 [AV.str a], Blk.mem t7001 [AV.str b], Blk.mem t7002 [AV.int k2 c], Blk.mem t7003 [AV.int k3 e], Blk.mem t7004 [AV.str r, AV.bool !List.all s2 (inL l1)]])) : ToEnd cfg 73 (bodyOf Tryz.f73) (RetIn Tryz.prog Tryz.f73 5 K) ([.code []]) .normal ([(0, true, .ptr 4 0), (1, true, .fn (.func 74) [] []), (2, true, .str l), (3, true, .str s)]) ([.mem t7000 [.str a], .mem t7001 [.str b], .mem t7002 [.int k2 c], .mem t7003 [.int k3 e], .mem t7004 [.str r, .bool bad]]) := by
  exact unr_ok (pl := ⟨[], []⟩) hT 100000 _ _ _ _ (unr_use H (by kernel_rfl))

theorem t73_2 {K : AV → Hp → Prop} {t7000 t7001 t7002 t7003 t7004 : Nat} {k0 k2 k3 : IntKind} {b r : List UInt8} {a c e : Int} {bad : Bool} {l s : List UInt8} (hT : TabOk cfg (ctab [(74, holdsC)])) (H : ifP bad (K (AV.tup []) [Blk.mem t7000 [AV.int k0 a], Blk.mem t7001 [AV.str b], Blk.mem t7002 [AV.int k2 c], Blk.mem t7003 [AV.int k3 e], Blk.mem t7004 [AV.str r, AV.bool true]]) (∃ (l1 : List UInt8) (s2 : List UInt8), List.length l1 ≤ 6 ∧ List.length l1 % 2 = 0 ∧ List.length s2 ≤ 100000 ∧ [AV.str l, AV.str s] = [AV.str l1, AV.str s2] ∧ K (AV.tup []) [Blk.mem t7000 [AV.int k0 a], Blk.mem t7001 [AV.str b], Blk.mem t7002 [AV.int k2 c], Blk.mem t7003 [AV.int k3 e], Blk.mem t7004 [AV.str r, AV.bool !List.all s2 (inL l1)]])) : ToEnd cfg 73 (bodyOf Tryz.f73) (RetIn Tryz.prog Tryz.f73 5 K) ([.code []]) .normal ([(0, true, .ptr 4 0), (1, true, .fn (.func 74) [] []), (2, true, .str l), (3, true, .str s)]) ([.mem t7000 [.int k0 a], .mem t7001 [.str b], .mem t7002 [.int k2 c], .mem t7003 [.int k3 e], .mem t7004 [.str r, .bool bad]]) := by
  exact unr_ok (pl := ⟨[], []⟩) hT 100000 _ _ _ _ (unr_use H (by kernel_rfl))

theorem t76_1 {K : AV → Hp → Prop} {t7000 t7001 t7002 t7003 t7004 : Nat} {k2 k3 : IntKind} {a b r : List UInt8} {c e : Int} {bad : Bool} {s : List UInt8} (hT : TabOk cfg (ctab [(115, cutPC), (116, byteC isDg)])) (H : ∃ (s1 : List UInt8) (x2 : List UInt8), [AV.str s, AV.str [72, 84, 84, 80, 47]] = [AV.str s1, AV.str x2] ∧ ifP bad (K (AV.tup [AV.int IntKind.i64 0, AV.int IntKind.i64 4]) [Blk.mem t7000 [AV.str a], Blk.mem t7001 [AV.str b], Blk.mem t7002 [AV.int k2 c], Blk.mem t7003 [AV.int k3 e], Blk.mem t7004 [AV.str r, AV.bool true]]) (ifP (!Prod.snd (cutP s1 x2)) (K (AV.tup [AV.int IntKind.i64 0, AV.int IntKind.i64 4]) [Blk.mem t7000 [AV.str a], Blk.mem t7001 [AV.str b], Blk.mem t7002 [AV.int k2 c], Blk.mem t7003 [AV.int k3 e], Blk.mem t7004 [AV.str r, AV.bool true]]) (ifP ((↑(List.length (Prod.fst (cutP s1 x2))) : Int) != 3) (K (AV.tup [AV.int IntKind.i64 0, AV.int IntKind.i64 4]) [Blk.mem t7000 [AV.str a], Blk.mem t7001 [AV.str b], Blk.mem t7002 [AV.int k2 c], Blk.mem t7003 [AV.int k3 e], Blk.mem t7004 [AV.str r, AV.bool true]]) (gAnd (inR 0 (List.length (Prod.fst (cutP s1 x2)))) (∃ (c3 : UInt8), [AV.int IntKind.u8 (↑(UInt8.toNat (List.getD (Prod.fst (cutP s1 x2)) 0 0)) : Int)] = [AV.int IntKind.u8 (↑(UInt8.toNat c3) : Int)] ∧ ifP (!isDg c3) (K (AV.tup [AV.int IntKind.i64 0, AV.int IntKind.i64 4]) [Blk.mem t7000 [AV.str a], Blk.mem t7001 [AV.str b], Blk.mem t7002 [AV.int k2 c], Blk.mem t7003 [AV.int k3 e], Blk.mem t7004 [AV.str r, AV.bool true]]) (gAnd (inR 1 (List.length (Prod.fst (cutP s1 x2)))) (ifP ((↑(UInt8.toNat (List.getD (Prod.fst (cutP s1 x2)) 1 0)) : Int) != 46) (K (AV.tup [AV.int IntKind.i64 0, AV.int IntKind.i64 4]) [Blk.mem t7000 [AV.str a], Blk.mem t7001 [AV.str b], Blk.mem t7002 [AV.int k2 c], Blk.mem t7003 [AV.int k3 e], Blk.mem t7004 [AV.str r, AV.bool true]]) (gAnd (inR 2 (List.length (Prod.fst (cutP s1 x2)))) (∃ (c4 : UInt8), [AV.int IntKind.u8 (↑(UInt8.toNat (List.getD (Prod.fst (cutP s1 x2)) 2 0)) : Int)] = [AV.int IntKind.u8 (↑(UInt8.toNat c4) : Int)] ∧ ifP (!isDg c4) (K (AV.tup [AV.int IntKind.i64 0, AV.int IntKind.i64 4]) [Blk.mem t7000 [AV.str a], Blk.mem t7001 [AV.str b], Blk.mem t7002 [AV.int k2 c], Blk.mem t7003 [AV.int k3 e], Blk.mem t7004 [AV.str r, AV.bool true]]) (gAnd (inR 0 (List.length (Prod.fst (cutP s1 x2)))) (ifP ((↑(UInt8.toNat (List.getD (Prod.fst (cutP s1 x2)) 0 0)) : Int) != 49) (K (AV.tup [AV.int IntKind.i64 0, AV.int IntKind.i64 9]) [Blk.mem t7000 [AV.str a], Blk.mem t7001 [AV.str b], Blk.mem t7002 [AV.int k2 c], Blk.mem t7003 [AV.int k3 e], Blk.mem t7004 [AV.str r, AV.bool bad]]) (gAnd (inR 2 (List.length (Prod.fst (cutP s1 x2)))) (K (AV.tup [AV.int IntKind.i64 (min 1 (IntKind.wrap IntKind.i64 (IntKind.wrap IntKind.u8 ((↑(UInt8.toNat (List.getD (Prod.fst (cutP s1 x2)) 2 0)) : Int) - 48)))), AV.int IntKind.i64 0]) [Blk.mem t7000 [AV.str a], Blk.mem t7001 [AV.str b], Blk.mem t7002 [AV.int k2 c], Blk.mem t7003 [AV.int k3 e], Blk.mem t7004 [AV.str r, AV.bool bad]]))))))))))))) : ToEnd cfg 76 (bodyOf Tryz.f76) (RetIn Tryz.prog Tryz.f76 5 K) ([.code []]) .normal ([(0, true, .ptr 4 0), (1, true, .str s)]) ([.mem t7000 [.str a], .mem t7001 [.str b], .mem t7002 [.int k2 c], .mem t7003 [.int k3 e], .mem t7004 [.str r, .bool bad]]) := by
  exact unr_ok (pl := ⟨[], []⟩) hT 100000 _ _ _ _ (unr_use H (by kernel_rfl))

theorem t76_2 {K : AV → Hp → Prop} {t7000 t7001 t7002 t7003 t7004 : Nat} {k0 k2 k3 : IntKind} {b r : List UInt8} {a c e : Int} {bad : Bool} {s : List UInt8} (hT : TabOk cfg (ctab [(115, cutPC), (116, byteC isDg)])) (H : ∃ (s1 : List UInt8) (x2 : List UInt8), [AV.str s, AV.str [72, 84, 84, 80, 47]] = [AV.str s1, AV.str x2] ∧ ifP bad (K (AV.tup [AV.int IntKind.i64 0, AV.int IntKind.i64 4]) [Blk.mem t7000 [AV.int k0 a], Blk.mem t7001 [AV.str b], Blk.mem t7002 [AV.int k2 c], Blk.mem t7003 [AV.int k3 e], Blk.mem t7004 [AV.str r, AV.bool true]]) (ifP (!Prod.snd (cutP s1 x2)) (K (AV.tup [AV.int IntKind.i64 0, AV.int IntKind.i64 4]) [Blk.mem t7000 [AV.int k0 a], Blk.mem t7001 [AV.str b], Blk.mem t7002 [AV.int k2 c], Blk.mem t7003 [AV.int k3 e], Blk.mem t7004 [AV.str r, AV.bool true]]) (ifP ((↑(List.length (Prod.fst (cutP s1 x2))) : Int) != 3) (K (AV.tup [AV.int IntKind.i64 0, AV.int IntKind.i64 4]) [Blk.mem t7000 [AV.int k0 a], Blk.mem t7001 [AV.str b], Blk.mem t7002 [AV.int k2 c], Blk.mem t7003 [AV.int k3 e], Blk.mem t7004 [AV.str r, AV.bool true]]) (gAnd (inR 0 (List.length (Prod.fst (cutP s1 x2)))) (∃ (c3 : UInt8), [AV.int IntKind.u8 (↑(UInt8.toNat (List.getD (Prod.fst (cutP s1 x2)) 0 0)) : Int)] = [AV.int IntKind.u8 (↑(UInt8.toNat c3) : Int)] ∧ ifP (!isDg c3) (K (AV.tup [AV.int IntKind.i64 0, AV.int IntKind.i64 4]) [Blk.mem t7000 [AV.int k0 a], Blk.mem t7001 [AV.str b], Blk.mem t7002 [AV.int k2 c], Blk.mem t7003 [AV.int k3 e], Blk.mem t7004 [AV.str r, AV.bool true]]) (gAnd (inR 1 (List.length (Prod.fst (cutP s1 x2)))) (ifP ((↑(UInt8.toNat (List.getD (Prod.fst (cutP s1 x2)) 1 0)) : Int) != 46) (K (AV.tup [AV.int IntKind.i64 0, AV.int IntKind.i64 4]) [Blk.mem t7000 [AV.int k0 a], Blk.mem t7001 [AV.str b], Blk.mem t7002 [AV.int k2 c], Blk.mem t7003 [AV.int k3 e], Blk.mem t7004 [AV.str r, AV.bool true]]) (gAnd (inR 2 (List.length (Prod.fst (cutP s1 x2)))) (∃ (c4 : UInt8), [AV.int IntKind.u8 (↑(UInt8.toNat (List.getD (Prod.fst (cutP s1 x2)) 2 0)) : Int)] = [AV.int IntKind.u8 (↑(UInt8.toNat c4) : Int)] ∧ ifP (!isDg c4) (K (AV.tup [AV.int IntKind.i64 0, AV.int IntKind.i64 4]) [Blk.mem t7000 [AV.int k0 a], Blk.mem t7001 [AV.str b], Blk.mem t7002 [AV.int k2 c], Blk.mem t7003 [AV.int k3 e], Blk.mem t7004 [AV.str r, AV.bool true]]) (gAnd (inR 0 (List.length (Prod.fst (cutP s1 x2)))) (ifP ((↑(UInt8.toNat (List.getD (Prod.fst (cutP s1 x2)) 0 0)) : Int) != 49) (K (AV.tup [AV.int IntKind.i64 0, AV.int IntKind.i64 9]) [Blk.mem t7000 [AV.int k0 a], Blk.mem t7001 [AV.str b], Blk.mem t7002 [AV.int k2 c], Blk.mem t7003 [AV.int k3 e], Blk.mem t7004 [AV.str r, AV.bool bad]]) (gAnd (inR 2 (List.length (Prod.fst (cutP s1 x2)))) (K (AV.tup [AV.int IntKind.i64 (min 1 (IntKind.wrap IntKind.i64 (IntKind.wrap IntKind.u8 ((↑(UInt8.toNat (List.getD (Prod.fst (cutP s1 x2)) 2 0)) : Int) - 48)))), AV.int IntKind.i64 0]) [Blk.mem t7000 [AV.int k0 a], Blk.mem t7001 [AV.str b], Blk.mem t7002 [AV.int k2 c], Blk.mem t7003 [AV.int k3 e], Blk.mem t7004 [AV.str r, AV.bool bad]]))))))))))))) : ToEnd cfg 76 (bodyOf Tryz.f76) (RetIn Tryz.prog Tryz.f76 5 K) ([.code []]) .normal ([(0, true, .ptr 4 0), (1, true, .str s)]) ([.mem t7000 [.int k0 a], .mem t7001 [.str b], .mem t7002 [.int k2 c], .mem t7003 [.int k3 e], .mem t7004 [.str r, .bool bad]]) := by
  exact unr_ok (pl := ⟨[], []⟩) hT 100000 _ _ _ _ (unr_use H (by kernel_rfl))

theorem t71 {K : AV → Hp → Prop} {t7000 t7001 t7002 t7003 t7004 : Nat} {k2 : IntKind} {a b r : List UInt8} {c e : Int} {bad : Bool}  (hT : TabOk cfg (ctab [])) (H : ifP (e != 0) (K (AV.tup []) [Blk.mem t7000 [AV.str []], Blk.mem t7001 [AV.str []], Blk.mem t7002 [AV.int IntKind.i64 0], Blk.mem t7003 [AV.int IntKind.i64 e], Blk.mem t7004 [AV.str r, AV.bool bad]]) (K (AV.tup []) [Blk.mem t7000 [AV.str a], Blk.mem t7001 [AV.str b], Blk.mem t7002 [AV.int k2 c], Blk.mem t7003 [AV.int IntKind.i64 e], Blk.mem t7004 [AV.str r, AV.bool bad]])) : ToEnd cfg 71 (bodyOf Tryz.f71) (RetIn Tryz.prog Tryz.f71 5 K) ([.code []]) .normal ([(0, true, .ptr 3 0), (1, true, .ptr 0 0), (2, true, .ptr 1 0), (3, true, .ptr 2 0)]) ([.mem t7000 [.str a], .mem t7001 [.str b], .mem t7002 [.int k2 c], .mem t7003 [.int .i64 e], .mem t7004 [.str r, .bool bad]]) := by
  exact unr_ok (pl := ⟨[], []⟩) hT 100000 _ _ _ _ (unr_use H (by kernel_rfl))

theorem t87 {K : AV → Hp → Prop} {t7000 t7001 t7002 t7003 t7004 : Nat} {k0 k2 : IntKind} {b r : List UInt8} {a c e : Int} {bad : Bool}  (hT : TabOk cfg (ctab [])) (H : ifP (e != 0) (K (AV.tup []) [Blk.mem t7000 [AV.int IntKind.i64 0], Blk.mem t7001 [AV.str []], Blk.mem t7002 [AV.int IntKind.i64 0], Blk.mem t7003 [AV.int IntKind.i64 e], Blk.mem t7004 [AV.str r, AV.bool bad]]) (K (AV.tup []) [Blk.mem t7000 [AV.int k0 a], Blk.mem t7001 [AV.str b], Blk.mem t7002 [AV.int k2 c], Blk.mem t7003 [AV.int IntKind.i64 e], Blk.mem t7004 [AV.str r, AV.bool bad]])) : ToEnd cfg 87 (bodyOf Tryz.f87) (RetIn Tryz.prog Tryz.f87 5 K) ([.code []]) .normal ([(0, true, .ptr 3 0), (1, true, .ptr 0 0), (2, true, .ptr 1 0), (3, true, .ptr 2 0)]) ([.mem t7000 [.int k0 a], .mem t7001 [.str b], .mem t7002 [.int k2 c], .mem t7003 [.int .i64 e], .mem t7004 [.str r, .bool bad]]) := by
  exact unr_ok (pl := ⟨[], []⟩) hT 100000 _ _ _ _ (unr_use H (by kernel_rfl))

theorem t31 {v : AV} {s : List UInt8} (hT : TabOk cfg (ctab [(71, wipe1C), (72, untilC), (73, needC 74), (75, strC tokenB), (76, versionC)])) (H : ifP (decide ((↑(List.length s) : Int) > 2048)) (AV.tup [AV.str [], AV.str [], AV.int IntKind.i64 0, AV.int IntKind.i64 3] = v) (List.length s ≤ 100000 ∧ [AV.ptr 4 0] = [AV.ptr 4 0] ∧ List.length (Prod.fst (Prod.snd (cutB s))) ≤ 100000 ∧ [AV.ptr 4 0] = [AV.ptr 4 0] ∧ ∃ (l1 : List UInt8) (s2 : List UInt8), List.length l1 ≤ 6 ∧ List.length l1 % 2 = 0 ∧ List.length s2 ≤ 100000 ∧ [AV.ptr 4 0, AV.fn (Fn.func 74) [] [], AV.str [33, 126], AV.str (Prod.fst (cutB (Prod.fst (Prod.snd (cutB s)))))] = [AV.ptr 4 0, AV.fn (Fn.func 74) [] [], AV.str l1, AV.str s2] ∧ ifP (!Prod.snd (Prod.snd (cutB s)) || !Prod.snd (Prod.snd (cutB (Prod.fst (Prod.snd (cutB s))))) || !List.all s2 (inL l1)) (∃ (s3 : List UInt8), List.length s3 ≤ 100000 ∧ [AV.ptr 4 0, AV.str (Prod.fst (Prod.snd (cutB (Prod.fst (Prod.snd (cutB s))))))] = [AV.ptr 4 0, AV.str s3] ∧ [AV.ptr 3 0, AV.ptr 0 0, AV.ptr 1 0, AV.ptr 2 0] = [AV.ptr 3 0, AV.ptr 0 0, AV.ptr 1 0, AV.ptr 2 0] ∧ AV.tup [AV.str [], AV.str [], AV.int IntKind.i64 0, AV.int IntKind.i64 4] = v) (∃ (s4 : List UInt8), List.length s4 ≤ 100000 ∧ [AV.str (Prod.fst (cutB s))] = [AV.str s4] ∧ ifP (!tokenB s4) (∃ (s5 : List UInt8), List.length s5 ≤ 100000 ∧ [AV.ptr 4 0, AV.str (Prod.fst (Prod.snd (cutB (Prod.fst (Prod.snd (cutB s))))))] = [AV.ptr 4 0, AV.str s5] ∧ [AV.ptr 3 0, AV.ptr 0 0, AV.ptr 1 0, AV.ptr 2 0] = [AV.ptr 3 0, AV.ptr 0 0, AV.ptr 1 0, AV.ptr 2 0] ∧ AV.tup [AV.str [], AV.str [], AV.int IntKind.i64 0, AV.int IntKind.i64 4] = v) (∃ (s6 : List UInt8), List.length s6 ≤ 100000 ∧ [AV.ptr 4 0, AV.str (Prod.fst (Prod.snd (cutB (Prod.fst (Prod.snd (cutB s))))))] = [AV.ptr 4 0, AV.str s6] ∧ ifP (Prod.snd (verB (Prod.fst (cutB (Prod.fst (Prod.snd (cutB s)))) == []) s6) == 0) (ifP (decide ((↑(List.length (Prod.fst (cutB (Prod.fst (Prod.snd (cutB s)))))) : Int) > 1024)) ([AV.ptr 3 0, AV.ptr 0 0, AV.ptr 1 0, AV.ptr 2 0] = [AV.ptr 3 0, AV.ptr 0 0, AV.ptr 1 0, AV.ptr 2 0] ∧ AV.tup [AV.str [], AV.str [], AV.int IntKind.i64 0, AV.int IntKind.i64 3] = v) ([AV.ptr 3 0, AV.ptr 0 0, AV.ptr 1 0, AV.ptr 2 0] = [AV.ptr 3 0, AV.ptr 0 0, AV.ptr 1 0, AV.ptr 2 0] ∧ ifP (Prod.snd (verB (Prod.fst (cutB (Prod.fst (Prod.snd (cutB s)))) == []) s6) == 0) (AV.tup [AV.str (Prod.fst (cutB s)), AV.str (Prod.fst (cutB (Prod.fst (Prod.snd (cutB s))))), AV.int IntKind.i64 (Prod.fst (verB (Prod.fst (cutB (Prod.fst (Prod.snd (cutB s)))) == []) s6)), AV.int IntKind.i64 (Prod.snd (verB (Prod.fst (cutB (Prod.fst (Prod.snd (cutB s)))) == []) s6))] = v) (AV.tup [AV.str [], AV.str [], AV.int IntKind.i64 0, AV.int IntKind.i64 (Prod.snd (verB (Prod.fst (cutB (Prod.fst (Prod.snd (cutB s)))) == []) s6))] = v))) ([AV.ptr 3 0, AV.ptr 0 0, AV.ptr 1 0, AV.ptr 2 0] = [AV.ptr 3 0, AV.ptr 0 0, AV.ptr 1 0, AV.ptr 2 0] ∧ ifP (Prod.snd (verB (Prod.fst (cutB (Prod.fst (Prod.snd (cutB s)))) == []) s6) == 0) (AV.tup [AV.str (Prod.fst (cutB s)), AV.str (Prod.fst (cutB (Prod.fst (Prod.snd (cutB s))))), AV.int IntKind.i64 (Prod.fst (verB (Prod.fst (cutB (Prod.fst (Prod.snd (cutB s)))) == []) s6)), AV.int IntKind.i64 (Prod.snd (verB (Prod.fst (cutB (Prod.fst (Prod.snd (cutB s)))) == []) s6))] = v) (AV.tup [AV.str [], AV.str [], AV.int IntKind.i64 0, AV.int IntKind.i64 (Prod.snd (verB (Prod.fst (cutB (Prod.fst (Prod.snd (cutB s)))) == []) s6))] = v)))))) : ToEnd cfg 31 (bodyOf Tryz.f31) (RetD cfg (ctab [(71, wipe1C), (72, untilC), (73, needC 74), (75, strC tokenB), (76, versionC)]) Tryz.f31 fun u h2 => stripR 0 h2 u = v) ([.code []]) .normal ([(0, true, .str s), (1000000, true, .dfr [])]) ([]) := by
  exact unr_ok (pl := ⟨[], []⟩) hT 100000 _ _ _ _ (unr_use H (by kernel_rfl))

theorem t45 {v : AV} {s : List UInt8} (hT : TabOk cfg (ctab [(87, wipe2C), (72, untilC), (73, needC 74), (76, versionC), (88, atoiC)])) (H : ifP (decide ((↑(List.length s) : Int) > 2048)) (AV.tup [AV.int IntKind.i64 0, AV.str [], AV.int IntKind.i64 0, AV.int IntKind.i64 3] = v) (List.length s ≤ 100000 ∧ [AV.ptr 4 0] = [AV.ptr 4 0] ∧ List.length (Prod.fst (Prod.snd (cutB s))) ≤ 100000 ∧ [AV.ptr 4 0] = [AV.ptr 4 0] ∧ ∃ (l1 : List UInt8) (s2 : List UInt8), List.length l1 ≤ 6 ∧ List.length l1 % 2 = 0 ∧ List.length s2 ≤ 100000 ∧ [AV.ptr 4 0, AV.fn (Fn.func 74) [] [], AV.str [9, 9, 32, 126, 128, 255], AV.str (Prod.fst (Prod.snd (cutB (Prod.fst (Prod.snd (cutB s))))))] = [AV.ptr 4 0, AV.fn (Fn.func 74) [] [], AV.str l1, AV.str s2] ∧ ∃ (l3 : List UInt8) (s4 : List UInt8), List.length l3 ≤ 6 ∧ List.length l3 % 2 = 0 ∧ List.length s4 ≤ 100000 ∧ [AV.ptr 4 0, AV.fn (Fn.func 74) [] [], AV.str [48, 57], AV.str (Prod.fst (cutB (Prod.fst (Prod.snd (cutB s)))))] = [AV.ptr 4 0, AV.fn (Fn.func 74) [] [], AV.str l3, AV.str s4] ∧ ifP (!Prod.snd (Prod.snd (cutB s)) || !Prod.snd (Prod.snd (cutB (Prod.fst (Prod.snd (cutB s))))) || !List.all s2 (inL l1) || !List.all s4 (inL l3)) (∃ (s5 : List UInt8), List.length s5 ≤ 100000 ∧ [AV.ptr 4 0, AV.str (Prod.fst (cutB s))] = [AV.ptr 4 0, AV.str s5] ∧ ∃ (s6 : List UInt8), List.length s6 ≤ 100000 ∧ [AV.str (Prod.fst (cutB (Prod.fst (Prod.snd (cutB s)))))] = [AV.str s6] ∧ [AV.ptr 3 0, AV.ptr 0 0, AV.ptr 1 0, AV.ptr 2 0] = [AV.ptr 3 0, AV.ptr 0 0, AV.ptr 1 0, AV.ptr 2 0] ∧ AV.tup [AV.int IntKind.i64 0, AV.str [], AV.int IntKind.i64 0, AV.int IntKind.i64 4] = v) (ifP ((↑(List.length (Prod.fst (cutB (Prod.fst (Prod.snd (cutB s)))))) : Int) != 3) (∃ (s7 : List UInt8), List.length s7 ≤ 100000 ∧ [AV.ptr 4 0, AV.str (Prod.fst (cutB s))] = [AV.ptr 4 0, AV.str s7] ∧ ∃ (s8 : List UInt8), List.length s8 ≤ 100000 ∧ [AV.str (Prod.fst (cutB (Prod.fst (Prod.snd (cutB s)))))] = [AV.str s8] ∧ [AV.ptr 3 0, AV.ptr 0 0, AV.ptr 1 0, AV.ptr 2 0] = [AV.ptr 3 0, AV.ptr 0 0, AV.ptr 1 0, AV.ptr 2 0] ∧ AV.tup [AV.int IntKind.i64 0, AV.str [], AV.int IntKind.i64 0, AV.int IntKind.i64 4] = v) (gAnd (inR 0 (List.length (Prod.fst (cutB (Prod.fst (Prod.snd (cutB s))))))) (ifP (decide ((↑(UInt8.toNat (List.getD (Prod.fst (cutB (Prod.fst (Prod.snd (cutB s))))) 0 0)) : Int) < 49)) (∃ (s9 : List UInt8), List.length s9 ≤ 100000 ∧ [AV.ptr 4 0, AV.str (Prod.fst (cutB s))] = [AV.ptr 4 0, AV.str s9] ∧ ∃ (s10 : List UInt8), List.length s10 ≤ 100000 ∧ [AV.str (Prod.fst (cutB (Prod.fst (Prod.snd (cutB s)))))] = [AV.str s10] ∧ [AV.ptr 3 0, AV.ptr 0 0, AV.ptr 1 0, AV.ptr 2 0] = [AV.ptr 3 0, AV.ptr 0 0, AV.ptr 1 0, AV.ptr 2 0] ∧ AV.tup [AV.int IntKind.i64 0, AV.str [], AV.int IntKind.i64 0, AV.int IntKind.i64 4] = v) (gAnd (inR 0 (List.length (Prod.fst (cutB (Prod.fst (Prod.snd (cutB s))))))) (∃ (s11 : List UInt8), List.length s11 ≤ 100000 ∧ [AV.ptr 4 0, AV.str (Prod.fst (cutB s))] = [AV.ptr 4 0, AV.str s11] ∧ ∃ (s12 : List UInt8), List.length s12 ≤ 100000 ∧ [AV.str (Prod.fst (cutB (Prod.fst (Prod.snd (cutB s)))))] = [AV.str s12] ∧ [AV.ptr 3 0, AV.ptr 0 0, AV.ptr 1 0, AV.ptr 2 0] = [AV.ptr 3 0, AV.ptr 0 0, AV.ptr 1 0, AV.ptr 2 0] ∧ ifP (Prod.snd (verB (decide ((↑(UInt8.toNat (List.getD (Prod.fst (cutB (Prod.fst (Prod.snd (cutB s))))) 0 0)) : Int) > 53)) s11) == 0) (AV.tup [AV.int IntKind.i64 (atoiV s12), AV.str (Prod.fst (Prod.snd (cutB (Prod.fst (Prod.snd (cutB s)))))), AV.int IntKind.i64 (Prod.fst (verB (decide ((↑(UInt8.toNat (List.getD (Prod.fst (cutB (Prod.fst (Prod.snd (cutB s))))) 0 0)) : Int) > 53)) s11)), AV.int IntKind.i64 (Prod.snd (verB (decide ((↑(UInt8.toNat (List.getD (Prod.fst (cutB (Prod.fst (Prod.snd (cutB s))))) 0 0)) : Int) > 53)) s11))] = v) (AV.tup [AV.int IntKind.i64 0, AV.str [], AV.int IntKind.i64 0, AV.int IntKind.i64 (Prod.snd (verB (decide ((↑(UInt8.toNat (List.getD (Prod.fst (cutB (Prod.fst (Prod.snd (cutB s))))) 0 0)) : Int) > 53)) s11))] = v)))))))) : ToEnd cfg 45 (bodyOf Tryz.f45) (RetD cfg (ctab [(87, wipe2C), (72, untilC), (73, needC 74), (76, versionC), (88, atoiC)]) Tryz.f45 fun u h2 => stripR 0 h2 u = v) ([.code []]) .normal ([(0, true, .str s), (1000000, true, .dfr [])]) ([]) := by
  exact unr_ok (pl := ⟨[], []⟩) hT 100000 _ _ _ _ (unr_use H (by kernel_rfl))

end Go.Proofs.YtnncfdlpogjlkaaGreatDoor.Ln
end

section
namespace Go.Proofs.YtnncfdlpogjlkaaGreatDoor.Ln
open Go.Ai Go.Ai.Ln Go
set_option linter.unusedSimpArgs false
set_option linter.unusedVariables false
set_option linter.unnecessarySimpa false
set_option maxRecDepth 100000

theorem hf72 : heapFn cfg 72 Tryz.f72 := ⟨by kernel_rfl, by kernel_rfl, by kernel_rfl, by kernel_rfl, by kernel_rfl, by kernel_rfl⟩
theorem hf73 : heapFn cfg 73 Tryz.f73 := ⟨by kernel_rfl, by kernel_rfl, by kernel_rfl, by kernel_rfl, by kernel_rfl, by kernel_rfl⟩
theorem hf76 : heapFn cfg 76 Tryz.f76 := ⟨by kernel_rfl, by kernel_rfl, by kernel_rfl, by kernel_rfl, by kernel_rfl, by kernel_rfl⟩
theorem hf71 : heapFn cfg 71 Tryz.f71 := ⟨by kernel_rfl, by kernel_rfl, by kernel_rfl, by kernel_rfl, by kernel_rfl, by kernel_rfl⟩
theorem hf87 : heapFn cfg 87 Tryz.f87 := ⟨by kernel_rfl, by kernel_rfl, by kernel_rfl, by kernel_rfl, by kernel_rfl, by kernel_rfl⟩
theorem df10 : dfrFn cfg 31 Tryz.f31 := ⟨by kernel_rfl, by kernel_rfl, by kernel_rfl, by kernel_rfl, by kernel_rfl, by kernel_rfl⟩
theorem df12 : dfrFn cfg 45 Tryz.f45 := ⟨by kernel_rfl, by kernel_rfl, by kernel_rfl, by kernel_rfl, by kernel_rfl, by kernel_rfl⟩

theorem c72 : COk cfg 72 untilC := by
  have hT := ctab_ok (ctab_cons c70 ctab_nil)
  refine cok_heap hf72 fun vs h K ht => ?_
  unfold untilC at ht
  split at ht
  · obtain ⟨h1, rfl, hk⟩ := ht
    refine t72_1 hT ⟨_, h1, rfl, ifP_intro (fun a => ?_) fun a => ?_⟩ <;> (subst a; exact hk)
  · obtain ⟨h1, rfl, hk⟩ := ht
    refine t72_2 hT ⟨_, h1, rfl, ifP_intro (fun a => ?_) fun a => ?_⟩ <;> (subst a; exact hk)
  · exact ht.elim
theorem c73 : COk cfg 73 (needC 74) := by
  have hT := ctab_ok (ctab_cons c74 ctab_nil)
  refine cok_heap hf73 fun vs h K ht => ?_
  unfold needC at ht
  split at ht
  · obtain ⟨l, s, h1, h2, h3, rfl, hk⟩ := ht
    refine t73_1 hT (ifP_intro (fun a => ?_) fun a => ⟨l, s, h1, h2, h3, rfl, ?_⟩) <;> (subst a; exact hk)
  · obtain ⟨l, s, h1, h2, h3, rfl, hk⟩ := ht
    refine t73_2 hT (ifP_intro (fun a => ?_) fun a => ⟨l, s, h1, h2, h3, rfl, ?_⟩) <;> (subst a; exact hk)
  · exact ht.elim
theorem c71 : COk cfg 71 wipe1C := by
  refine cok_heap hf71 fun vs h K ht => ?_
  unfold wipe1C at ht
  split at ht
  · rename_i t7000 a t7001 b t7002 k2 c t7003 e t7004 r bad
    obtain ⟨rfl, hk⟩ := ht
    refine t71 (ctab_ok ctab_nil) (ifP_intro (fun a => ?_) fun a => ?_)
    · have : (e == (0 : Int)) = false := by simpa using a
      rw [this] at hk; exact hk
    · have : (e == (0 : Int)) = true := by simpa using a
      rw [this] at hk; exact hk
  · exact ht.elim
theorem c87 : COk cfg 87 wipe2C := by
  refine cok_heap hf87 fun vs h K ht => ?_
  unfold wipe2C at ht
  split at ht
  · rename_i t7000 k0 a t7001 b t7002 k2 c t7003 e t7004 r bad
    obtain ⟨rfl, hk⟩ := ht
    refine t87 (ctab_ok ctab_nil) (ifP_intro (fun a => ?_) fun a => ?_)
    · have : (e == (0 : Int)) = false := by simpa using a
      rw [this] at hk; exact hk
    · have : (e == (0 : Int)) = true := by simpa using a
      rw [this] at hk; exact hk
  · exact ht.elim

theorem cut_ver (s : List UInt8) : ((cutP s [72, 84, 84, 80, 47]).2 = false ∧ verOf s = none) ∨ ((cutP s [72, 84, 84, 80, 47]).2 = true ∧ s = [72, 84, 84, 80, 47] ++ (cutP s [72, 84, 84, 80, 47]).1) := by
  unfold cutP
  cases h : List.isPrefixOf [72, 84, 84, 80, 47] s with
  | true =>
    right
    obtain ⟨t, ht⟩ := List.isPrefixOf_iff_prefix.1 h
    refine ⟨rfl, ?_⟩
    rw [← ht]; rfl
  | false =>
    left
    refine ⟨rfl, ?_⟩
    cases hv : verOf s with
    | none => rfl
    | some p =>
      have := (verOf_some (a := p.1) (b := p.2) hv).1
      rw [this] at h
      simp at h
theorem ver_tail {q : List UInt8} (h : q.length = 3) : ∃ x f y, q = [x, f, y] := by
  match q, h with
  | [x, f, y], _ => exact ⟨x, f, y, rfl⟩
theorem ver_none3 {q : List UInt8} (h : q.length ≠ 3) : verOf ([72, 84, 84, 80, 47] ++ q) = none := ver_not8 (by simp; omega)
theorem ver_none_of {x f y : UInt8} (h : isDg x = false ∨ f ≠ 46 ∨ isDg y = false) : verOf [72, 84, 84, 80, 47, x, f, y] = none := by
  cases hv : verOf [72, 84, 84, 80, 47, x, f, y] with
  | none => rfl
  | some p =>
    obtain ⟨h1, h2, h3⟩ := verOf_some (a := p.1) (b := p.2) hv
    simp only [List.cons.injEq, and_true, true_and] at h1
    obtain ⟨rfl, rfl, rfl⟩ := h1
    rcases h with h | h | h
    · rw [h2] at h; cases h
    · exact absurd rfl h
    · rw [h3] at h; cases h
theorem one_min {y : UInt8} (h : isDg y = true) : min 1 (IntKind.wrap .i64 (IntKind.wrap .u8 ((y.toNat : Int) - 48))) = ((min 1 (y.toNat - 48) : Nat) : Int) := by
  have := dg_range h
  have e : IntKind.wrap .u8 ((y.toNat : Int) - 48) = (y.toNat : Int) - 48 := by
    simp only [IntKind.wrap, IntKind.signed, IntKind.bits]; simp; omega
  rw [e, wrap_in (by omega) (by omega)]
  omega
theorem c76 : COk cfg 76 versionC := by
  have hT := ctab_ok (ctab_cons c115 (ctab_cons c116 ctab_nil))
  refine cok_heap hf76 fun vs h K ht => ?_
  unfold versionC at ht
  have key : ∀ (bad : Bool) (s : List UInt8) (X : Int → Int → Bool → Prop), X (verB bad s).1 (verB bad s).2 (verBad bad s) →
      ifP bad (X 0 4 true) (ifP (!(cutP s [72, 84, 84, 80, 47]).2) (X 0 4 true) (ifP (((cutP s [72, 84, 84, 80, 47]).1.length : Int) != 3) (X 0 4 true) (gAnd (inR 0 (cutP s [72, 84, 84, 80, 47]).1.length) (∃ c7003 : UInt8, [AV.int .u8 (List.getD (cutP s [72, 84, 84, 80, 47]).1 0 0).toNat] = [AV.int .u8 c7003.toNat] ∧
        ifP (!isDg c7003) (X 0 4 true) (gAnd (inR 1 (cutP s [72, 84, 84, 80, 47]).1.length) (ifP (((List.getD (cutP s [72, 84, 84, 80, 47]).1 1 0).toNat : Int) != 46) (X 0 4 true) (gAnd (inR 2 (cutP s [72, 84, 84, 80, 47]).1.length) (∃ c7004 : UInt8, [AV.int .u8 (List.getD (cutP s [72, 84, 84, 80, 47]).1 2 0).toNat] = [AV.int .u8 c7004.toNat] ∧
          ifP (!isDg c7004) (X 0 4 true) (gAnd (inR 0 (cutP s [72, 84, 84, 80, 47]).1.length) (ifP (((List.getD (cutP s [72, 84, 84, 80, 47]).1 0 0).toNat : Int) != 49) (X 0 9 bad) (gAnd (inR 2 (cutP s [72, 84, 84, 80, 47]).1.length) (X (min 1 (IntKind.wrap .i64 (IntKind.wrap .u8 (((List.getD (cutP s [72, 84, 84, 80, 47]).1 2 0).toNat : Int) - 48)))) 0 bad)))))))))))) := by
    intro bad s X hX
    have wrong : (bad = true ∨ verOf s = none) → X 0 4 true := fun hw => by
      rw [verB_bad hw] at hX
      have : verBad bad s = true := by
        unfold verBad
        rcases hw with rfl | hw
        · rfl
        · rw [hw]; simp
      rw [this] at hX
      exact hX
    refine ifP_intro (fun a => wrong (.inl a)) fun a => ?_
    subst a
    rcases cut_ver s with ⟨h1, h2⟩ | ⟨h1, h2⟩
    · rw [h1]
      exact ifP_intro (fun _ => wrong (.inr h2)) fun a => by cases a
    · rw [h1]
      generalize (cutP s [72, 84, 84, 80, 47]).1 = q at h2
      refine ifP_intro (fun a => by cases a) fun _ => ifP_intro (fun a => wrong (.inr ?_)) fun a => ?_
      · rw [h2]; exact ver_none3 fun e => by rw [e] at a; cases a
      · have hq : q.length = 3 := by
          have : (q.length : Int) = 3 := by simpa using a
          omega
        obtain ⟨x, f, y, rfl⟩ := ver_tail hq
        have h2 : s = [72, 84, 84, 80, 47, x, f, y] := h2
        refine gAnd_intro (inR_of (by omega) (by simp)) ⟨x, rfl, ifP_intro (fun b => wrong (.inr ?_)) fun b => gAnd_intro (inR_of (by omega) (by simp)) (ifP_intro (fun c => wrong (.inr ?_)) fun c => gAnd_intro (inR_of (by omega) (by simp)) ⟨y, rfl, ifP_intro (fun d => wrong (.inr ?_)) fun d => gAnd_intro (inR_of (by omega) (by simp)) ?_⟩)⟩
        · rw [h2]; exact ver_none_of (.inl (by simpa using b))
        · rw [h2]; exact ver_none_of (.inr (.inl fun e => by rw [e] at c; cases c))
        · rw [h2]; exact ver_none_of (.inr (.inr (by simpa using d)))
        · have b' : isDg x = true := by simpa using b
          have d' : isDg y = true := by simpa using d
          have c' : f = 46 := UInt8.toNat_inj.1 (by
            have : (f.toNat : Int) = 46 := by simpa using c
            show f.toNat = 46; omega)
          subst c'
          have hv : verOf s = some (x, y) := by rw [h2]; exact verOf_mk b' d'
          have hbad : verBad false s = false := by unfold verBad; rw [hv]; rfl
          rw [hbad] at hX
          have hB : verB false s = if x = 49 then (((min 1 (y.toNat - 48) : Nat) : Int), 0) else (0, 9) := by simp only [verB, hv]
          rw [hB] at hX
          refine ifP_intro (fun k => ?_) fun k => gAnd_intro (inR_of (by omega) (by simp)) ?_
          · rw [if_neg fun e => by rw [e] at k; cases k] at hX
            exact hX
          · have : x = 49 := UInt8.toNat_inj.1 (by
              have : (x.toNat : Int) = 49 := by simpa using k
              show x.toNat = 49; omega)
            rw [if_pos this] at hX
            have e2 : List.getD [x, (46 : UInt8), y] 2 0 = y := rfl
            rw [e2, one_min d']
            exact hX
  split at ht
  · rename_i t7000 a t7001 b t7002 k2 c t7003 k3 e t7004 r bad
    obtain ⟨s, h1, rfl, hk⟩ := ht
    exact t76_1 hT ⟨s, _, rfl, key bad s (fun x y z => K (.tup [.int .i64 x, .int .i64 y]) [.mem t7000 [.str a], .mem t7001 [.str b], .mem t7002 [.int k2 c], .mem t7003 [.int k3 e], .mem t7004 [.str r, .bool z]]) hk⟩
  · rename_i t7000 k0 a t7001 b t7002 k2 c t7003 k3 e t7004 r bad
    obtain ⟨s, h1, rfl, hk⟩ := ht
    exact t76_2 hT ⟨s, _, rfl, key bad s (fun x y z => K (.tup [.int .i64 x, .int .i64 y]) [.mem t7000 [.int k0 a], .mem t7001 [.str b], .mem t7002 [.int k2 c], .mem t7003 [.int k3 e], .mem t7004 [.str r, .bool z]]) hk⟩
  · exact ht.elim
end Go.Proofs.YtnncfdlpogjlkaaGreatDoor.Ln
end

section
namespace Go.Proofs.YtnncfdlpogjlkaaGreatDoor.Ln
open Go.Ai Go.Ai.Ln Go
set_option linter.unusedSimpArgs false
set_option linter.unusedVariables false
set_option linter.unnecessarySimpa false
set_option maxRecDepth 100000

theorem emp_eq (l : List UInt8) : l.isEmpty = (l == []) := by cases l <;> rfl
theorem all_target (l : List UInt8) : l.all (inL [33, 126]) = l.all targetB := by
  have : inL [33, 126] = targetB := funext in_target
  rw [this]
theorem all_reason (l : List UInt8) : l.all (inL [9, 9, 32, 126, 128, 255]) = l.all reasonB := by
  have : inL [9, 9, 32, 126, 128, 255] = reasonB := funext in_reason
  rw [this]
theorem all_digit (l : List UInt8) : l.all (inL [48, 57]) = l.all isDg := by
  have : inL [48, 57] = isDg := funext in_digit
  rw [this]
theorem req_of_bad {s : List UInt8} (hl : ¬2048 < s.length) (h : reqBad s = true) : reqP s = ([], [], 0, 4) := by
  unfold reqP reqE
  rw [if_neg hl, verB_bad (.inl h)]; rfl
theorem st_of_bad {s : List UInt8} (hl : ¬2048 < s.length) (h : stBad s = true) : stP s = (0, [], 0, 4) := by
  unfold stP
  rw [if_neg hl, verB_bad (.inl h)]; rfl

theorem c31 : COk cfg 31 reqC := by
  have hT := ctab_ok (ctab_cons c71 (ctab_cons c72 (ctab_cons c73 (ctab_cons c75 (ctab_cons c76 ctab_nil)))))
  refine cok_dfr hT df10 fun vs h K ht => ?_
  obtain ⟨s, hs, rfl, hk⟩ := ht
  refine ⟨_, hk, t31 hT ?_⟩
  have h1 := cutB_len s
  have h2 := cutB_len (cutB s).2.1
  unfold big at hs
  refine ifP_intro (fun a => ?_) fun a => ?_
  · unfold reqP
    rw [if_pos (by simp at a; omega)]
  · have hle : ¬2048 < s.length := by simp at a; omega
    refine ⟨hs, rfl, by omega, rfl, [33, 126], _, by decide, by decide, by omega, rfl, ?_⟩
    rw [all_target]
    refine ifP_intro (fun b => ?_) fun b => ⟨_, by omega, rfl, ifP_intro (fun c => ?_) fun c => ⟨_, by omega, rfl, ?_⟩⟩
    · have hb : reqBad s = true := by unfold reqBad; rw [b]; rfl
      exact ⟨_, by omega, rfl, rfl, by rw [req_of_bad hle hb]⟩
    · have hb : reqBad s = true := by unfold reqBad; rw [b, c]; rfl
      exact ⟨_, by omega, rfl, rfl, by rw [req_of_bad hle hb]⟩
    · have hb : reqBad s = ((cutB (cutB s).2.1).1 == []) := by unfold reqBad; rw [b, c, emp_eq]; rfl
      unfold reqP reqE
      rw [if_neg hle, hb]
      generalize verB ((cutB (cutB s).2.1).1 == []) (cutB (cutB s).2.1).2.1 = e
      refine ifP_intro (fun d => ifP_intro (fun f => ⟨rfl, ?_⟩) fun f => ⟨rfl, ifP_intro (fun g => ?_) fun g => ?_⟩) fun d => ⟨rfl, ifP_intro (fun g => ?_) fun g => ?_⟩
      · have d' : e.2 = 0 := by simpa using d
        have f' : 1024 < (cutB (cutB s).2.1).1.length := by simp at f; omega
        have e1 : (if e.2 = 0 ∧ 1024 < (cutB (cutB s).2.1).1.length then (3 : Int) else e.2) = 3 := if_pos ⟨d', f'⟩
        rw [e1, if_neg (by decide)]
      · have d' : e.2 = 0 := by simpa using d
        have f' : ¬1024 < (cutB (cutB s).2.1).1.length := by simp at f; omega
        have e1 : (if e.2 = 0 ∧ 1024 < (cutB (cutB s).2.1).1.length then (3 : Int) else e.2) = 0 := by rw [if_neg fun k => f' k.2, d']
        rw [e1, if_pos rfl, d']
      · rw [d] at g; cases g
      · rw [d] at g; cases g
      · have d' : ¬e.2 = 0 := by simpa using d
        have e1 : (if e.2 = 0 ∧ 1024 < (cutB (cutB s).2.1).1.length then (3 : Int) else e.2) = e.2 := if_neg fun k => d' k.1
        rw [e1, if_neg d']

theorem atoi_code {c7000 c7001 c7002 : UInt8} (h0 : isDg c7000 = true) (h1 : isDg c7001 = true) (h2 : isDg c7002 = true) : atoiV [c7000, c7001, c7002] = codeN [c7000, c7001, c7002] := by
  have d0 := dg_range h0
  have d1 := dg_range h1
  have d2 := dg_range h2
  have e0 : ¬(c7000.toNat = 43 ∨ c7000.toNat = 45) := by omega
  have e1 : ¬(c7000.toNat = 45) := by omega
  have hp : Lib.parseMag [c7000, c7001, c7002] = .ok (((0 * 10 + (c7000.toNat - 48)) * 10 + (c7001.toNat - 48)) * 10 + (c7002.toNat - 48)) := by
    unfold Lib.parseMag
    rw [if_neg (by simp)]
    simp only [Lib.parseUint10]
    rw [if_pos d0, if_neg (by omega), if_neg (by omega), if_pos d1, if_neg (by omega), if_neg (by omega), if_pos d2, if_neg (by omega), if_neg (by omega)]
  have ha : Lib.atoiAll [c7000, c7001, c7002] = .ok (((((0 * 10 + (c7000.toNat - 48)) * 10 + (c7001.toNat - 48)) * 10 + (c7002.toNat - 48) : Nat)) : Int) := by
    unfold Lib.atoiAll
    simp only [if_neg e0]
    rw [hp]
    simp only [e1, if_false]
    rw [if_neg (fun k => by have := k.2; omega), if_neg (fun k => k.1)]
  unfold atoiV
  rw [ha]
  simp only [codeN, List.getD_cons_zero, List.getD_cons_succ]
  omega
theorem three {c : List UInt8} (h : c.length = 3) : ∃ c7000 c7001 c7002, c = [c7000, c7001, c7002] := by
  match c, h with
  | [x, y, z], _ => exact ⟨x, y, z, rfl⟩
theorem c45 : COk cfg 45 stC := by
  have hT := ctab_ok (ctab_cons c87 (ctab_cons c72 (ctab_cons c73 (ctab_cons c76 (ctab_cons c88 ctab_nil)))))
  refine cok_dfr hT df12 fun vs h K ht => ?_
  obtain ⟨s, hs, rfl, hk⟩ := ht
  refine ⟨_, hk, t45 hT ?_⟩
  have h1 := cutB_len s
  have h2 := cutB_len (cutB s).2.1
  unfold big at hs
  refine ifP_intro (fun a => ?_) fun a => ?_
  · unfold stP
    rw [if_pos (by simp at a; omega)]
  · have hle : ¬2048 < s.length := by simp at a; omega
    refine ⟨hs, rfl, by omega, rfl, [9, 9, 32, 126, 128, 255], _, by decide, by decide, by omega, rfl, [48, 57], _, by decide, by decide, by omega, rfl, ?_⟩
    rw [all_reason, all_digit]
    have wrong : stBad s = true → ∃ s5 : List UInt8, s5.length ≤ 100000 ∧ [AV.ptr 4 0, AV.str (cutB s).1] = [AV.ptr 4 0, AV.str s5] ∧ ∃ s6 : List UInt8, s6.length ≤ 100000 ∧ [AV.str (cutB (cutB s).2.1).1] = [AV.str s6] ∧
        [AV.ptr 3 0, AV.ptr 0 0, AV.ptr 1 0, AV.ptr 2 0] = [AV.ptr 3 0, AV.ptr 0 0, AV.ptr 1 0, AV.ptr 2 0] ∧ AV.tup [AV.int .i64 0, AV.str [], AV.int .i64 0, AV.int .i64 4] = AV.tup [AV.int .i64 (stP s).1, AV.str (stP s).2.1, AV.int .i64 (stP s).2.2.1, AV.int .i64 (stP s).2.2.2] :=
      fun hb => ⟨_, by omega, rfl, _, by omega, rfl, rfl, by rw [st_of_bad hle hb]⟩
    refine ifP_intro (fun b => wrong ?_) fun b => ifP_intro (fun c => wrong ?_) fun c => ?_
    · unfold stBad codeBad
      simp only [Bool.or_eq_true] at b ⊢
      rcases b with b | b
      · exact .inl b
      · exact .inr (.inl b)
    · unfold stBad codeBad
      have : ((cutB (cutB s).2.1).1.length == 3) = false := by
        rw [beq_eq_false_iff_ne]
        intro e
        rw [e] at c
        cases c
      simp [this]
    · have hc3 : (cutB (cutB s).2.1).1.length = 3 := by
        have : ((cutB (cutB s).2.1).1.length : Int) = 3 := by simpa using c
        omega
      have hlen3 : ((cutB (cutB s).2.1).1.length == 3) = true := by rw [hc3]; rfl
      refine gAnd_intro (inR_of (by omega) (by omega)) (ifP_intro (fun d => wrong ?_) fun d => gAnd_intro (inR_of (by omega) (by omega)) ⟨_, by omega, rfl, _, by omega, rfl, rfl, ?_⟩)
      · unfold stBad codeBad
        simp only [decide_eq_true_eq] at d
        have : decide (((cutB (cutB s).2.1).1.getD 0 0).toNat < 49) = true := decide_eq_true (by omega)
        rw [hlen3, this]
        simp
      · have hb : stBad s = decide ((((cutB (cutB s).2.1).1.getD 0 0).toNat : Int) > 53) := by
          unfold stBad codeBad
          simp only [decide_eq_false_iff_not] at d
          have e1 : decide (((cutB (cutB s).2.1).1.getD 0 0).toNat < 49) = false := decide_eq_false (by omega)
          have e2 : decide (53 < ((cutB (cutB s).2.1).1.getD 0 0).toNat) = decide ((((cutB (cutB s).2.1).1.getD 0 0).toNat : Int) > 53) := by
            rw [Bool.eq_iff_iff, decide_eq_true_eq, decide_eq_true_eq]; omega
          rw [hlen3, e1, e2]
          simp only [Bool.or_eq_false_iff, Bool.not_eq_false'] at b
          obtain ⟨⟨⟨b1, b2⟩, b3⟩, b4⟩ := b
          rw [b1, b2, b3, b4]
          rfl
        have hdg : (cutB (cutB s).2.1).1.all isDg = true := by
          simp only [Bool.or_eq_false_iff, Bool.not_eq_false'] at b
          exact b.2
        have hcode : atoiV (cutB (cutB s).2.1).1 = codeN (cutB (cutB s).2.1).1 := by
          obtain ⟨c7000, c7001, c7002, e⟩ := three hc3
          rw [e] at hdg ⊢
          simp only [List.all_cons, List.all_nil, Bool.and_true, Bool.and_eq_true] at hdg
          exact atoi_code hdg.1 hdg.2.1 hdg.2.2
        unfold stP
        rw [if_neg hle, hb, hcode]
        generalize verB (decide ((((cutB (cutB s).2.1).1.getD 0 0).toNat : Int) > 53)) (cutB s).1 = e
        refine ifP_intro (fun f => ?_) fun f => ?_
        · have f' : e.2 = 0 := by simpa using f
          rw [if_pos f', f']
        · have f' : ¬e.2 = 0 := by simpa using f
          rw [if_neg f']
end Go.Proofs.YtnncfdlpogjlkaaGreatDoor.Ln
end

section
namespace Go.Proofs.YtnncfdlpogjlkaaGreatDoor.Ln
open Go.Ai Go.Ai.Ln Go
set_option maxRecDepth 100000
set_option linter.unusedVariables false
theorem t58 {v : AV} {a b : List UInt8} {n : Int} (hT : TabOk cfg (ctab [(74, holdsC), (75, strC tokenB), (91, doneC), (92, itoaC)])) (H : ∃ (s1 : List UInt8), List.length s1 ≤ 100000 ∧ [AV.str a] = [AV.str s1] ∧ ifP (!tokenB s1) (gAnd (decide (List.length a + 1 ≤ 9223372036854775807)) (gAnd (decide (List.length (a ++ [32]) + List.length b ≤ 9223372036854775807)) (gAnd (decide (List.length (a ++ [32] ++ b) + 8 ≤ 9223372036854775807)) (∃ (n2 : Int), -9223372036854775808 ≤ n2 ∧ n2 ≤ 9223372036854775807 ∧ [AV.int IntKind.i64 n] = [AV.int IntKind.i64 n2] ∧ gAnd (decide (List.length (a ++ [32] ++ b ++ [32, 72, 84, 84, 80, 47, 49, 46]) + List.length (itoaS n2) ≤ 9223372036854775807)) (∃ (mi3 : Int) (bad4 : Bool) (s5 : List UInt8), List.length s5 ≤ 100000 ∧ [AV.int IntKind.i64 n, AV.bool true, AV.str (a ++ [32] ++ b ++ [32, 72, 84, 84, 80, 47, 49, 46] ++ itoaS n2)] = [AV.int IntKind.i64 mi3, AV.bool bad4, AV.str s5] ∧ ifP (Prod.snd (doneB mi3 bad4 s5) == 0) (ifP (decide ((↑(List.length b) : Int) > 1024)) (AV.tup [AV.str [], AV.int IntKind.i64 3] = v) (AV.tup [AV.str (Prod.fst (doneB mi3 bad4 s5)), AV.int IntKind.i64 (Prod.snd (doneB mi3 bad4 s5))] = v)) (AV.tup [AV.str (Prod.fst (doneB mi3 bad4 s5)), AV.int IntKind.i64 (Prod.snd (doneB mi3 bad4 s5))] = v)))))) (ifP (b == []) (gAnd (decide (List.length a + 1 ≤ 9223372036854775807)) (gAnd (decide (List.length (a ++ [32]) + List.length b ≤ 9223372036854775807)) (gAnd (decide (List.length (a ++ [32] ++ b) + 8 ≤ 9223372036854775807)) (∃ (n6 : Int), -9223372036854775808 ≤ n6 ∧ n6 ≤ 9223372036854775807 ∧ [AV.int IntKind.i64 n] = [AV.int IntKind.i64 n6] ∧ gAnd (decide (List.length (a ++ [32] ++ b ++ [32, 72, 84, 84, 80, 47, 49, 46]) + List.length (itoaS n6) ≤ 9223372036854775807)) (∃ (mi7 : Int) (bad8 : Bool) (s9 : List UInt8), List.length s9 ≤ 100000 ∧ [AV.int IntKind.i64 n, AV.bool true, AV.str (a ++ [32] ++ b ++ [32, 72, 84, 84, 80, 47, 49, 46] ++ itoaS n6)] = [AV.int IntKind.i64 mi7, AV.bool bad8, AV.str s9] ∧ ifP (Prod.snd (doneB mi7 bad8 s9) == 0) (ifP (decide ((↑(List.length b) : Int) > 1024)) (AV.tup [AV.str [], AV.int IntKind.i64 3] = v) (AV.tup [AV.str (Prod.fst (doneB mi7 bad8 s9)), AV.int IntKind.i64 (Prod.snd (doneB mi7 bad8 s9))] = v)) (AV.tup [AV.str (Prod.fst (doneB mi7 bad8 s9)), AV.int IntKind.i64 (Prod.snd (doneB mi7 bad8 s9))] = v)))))) (∃ (l10 : List UInt8) (s11 : List UInt8), List.length l10 ≤ 6 ∧ List.length l10 % 2 = 0 ∧ List.length s11 ≤ 100000 ∧ [AV.str [33, 126], AV.str b] = [AV.str l10, AV.str s11] ∧ gAnd (decide (List.length a + 1 ≤ 9223372036854775807)) (gAnd (decide (List.length (a ++ [32]) + List.length b ≤ 9223372036854775807)) (gAnd (decide (List.length (a ++ [32] ++ b) + 8 ≤ 9223372036854775807)) (∃ (n12 : Int), -9223372036854775808 ≤ n12 ∧ n12 ≤ 9223372036854775807 ∧ [AV.int IntKind.i64 n] = [AV.int IntKind.i64 n12] ∧ gAnd (decide (List.length (a ++ [32] ++ b ++ [32, 72, 84, 84, 80, 47, 49, 46]) + List.length (itoaS n12) ≤ 9223372036854775807)) (∃ (mi13 : Int) (bad14 : Bool) (s15 : List UInt8), List.length s15 ≤ 100000 ∧ [AV.int IntKind.i64 n, AV.bool !List.all s11 (inL l10), AV.str (a ++ [32] ++ b ++ [32, 72, 84, 84, 80, 47, 49, 46] ++ itoaS n12)] = [AV.int IntKind.i64 mi13, AV.bool bad14, AV.str s15] ∧ ifP (Prod.snd (doneB mi13 bad14 s15) == 0) (ifP (decide ((↑(List.length b) : Int) > 1024)) (AV.tup [AV.str [], AV.int IntKind.i64 3] = v) (AV.tup [AV.str (Prod.fst (doneB mi13 bad14 s15)), AV.int IntKind.i64 (Prod.snd (doneB mi13 bad14 s15))] = v)) (AV.tup [AV.str (Prod.fst (doneB mi13 bad14 s15)), AV.int IntKind.i64 (Prod.snd (doneB mi13 bad14 s15))] = v)))))))) : ToEnd cfg 58 (bodyOf Tryz.f58) (RetIs Tryz.prog Tryz.f58 v) ([.code []]) .normal ([(0, true, .str a), (1, true, .str b), (2, true, .int .i64 n)]) ([]) := by
  exact unr_ok (pl := ⟨[], []⟩) hT 100000 _ _ _ _ (unr_use H (by kernel_rfl))

theorem t53 {v : AV} {st n : Int} {w : List UInt8} (hT : TabOk cfg (ctab [(74, holdsC), (91, doneC), (92, itoaC)])) (H : ifP (decide (st < 100)) (∃ (n1 : Int), -9223372036854775808 ≤ n1 ∧ n1 ≤ 9223372036854775807 ∧ [AV.int IntKind.i64 n] = [AV.int IntKind.i64 n1] ∧ gAnd (decide (7 + List.length (itoaS n1) ≤ 9223372036854775807)) (gAnd (decide (List.length (72 :: 84 :: 84 :: 80 :: 47 :: 49 :: 46 :: List.append [] (itoaS n1)) + 1 ≤ 9223372036854775807)) (∃ (n2 : Int), -9223372036854775808 ≤ n2 ∧ n2 ≤ 9223372036854775807 ∧ [AV.int IntKind.i64 st] = [AV.int IntKind.i64 n2] ∧ gAnd (decide (List.length (72 :: 84 :: 84 :: 80 :: 47 :: 49 :: 46 :: List.append (List.append [] (itoaS n1)) [32]) + List.length (itoaS n2) ≤ 9223372036854775807)) (gAnd (decide (List.length (72 :: 84 :: 84 :: 80 :: 47 :: 49 :: 46 :: List.append (List.append (List.append [] (itoaS n1)) [32]) (itoaS n2)) + 1 ≤ 9223372036854775807)) (gAnd (decide (List.length (72 :: 84 :: 84 :: 80 :: 47 :: 49 :: 46 :: List.append (List.append (List.append (List.append [] (itoaS n1)) [32]) (itoaS n2)) [32]) + List.length w ≤ 9223372036854775807)) (∃ (mi3 : Int) (bad4 : Bool) (s5 : List UInt8), List.length s5 ≤ 100000 ∧ [AV.int IntKind.i64 n, AV.bool true, AV.str (72 :: 84 :: 84 :: 80 :: 47 :: 49 :: 46 :: List.append (List.append (List.append (List.append (List.append [] (itoaS n1)) [32]) (itoaS n2)) [32]) w)] = [AV.int IntKind.i64 mi3, AV.bool bad4, AV.str s5] ∧ AV.tup [AV.str (Prod.fst (doneB mi3 bad4 s5)), AV.int IntKind.i64 (Prod.snd (doneB mi3 bad4 s5))] = v)))))) (ifP (decide (st > 599)) (∃ (n6 : Int), -9223372036854775808 ≤ n6 ∧ n6 ≤ 9223372036854775807 ∧ [AV.int IntKind.i64 n] = [AV.int IntKind.i64 n6] ∧ gAnd (decide (7 + List.length (itoaS n6) ≤ 9223372036854775807)) (gAnd (decide (List.length (72 :: 84 :: 84 :: 80 :: 47 :: 49 :: 46 :: List.append [] (itoaS n6)) + 1 ≤ 9223372036854775807)) (∃ (n7 : Int), -9223372036854775808 ≤ n7 ∧ n7 ≤ 9223372036854775807 ∧ [AV.int IntKind.i64 st] = [AV.int IntKind.i64 n7] ∧ gAnd (decide (List.length (72 :: 84 :: 84 :: 80 :: 47 :: 49 :: 46 :: List.append (List.append [] (itoaS n6)) [32]) + List.length (itoaS n7) ≤ 9223372036854775807)) (gAnd (decide (List.length (72 :: 84 :: 84 :: 80 :: 47 :: 49 :: 46 :: List.append (List.append (List.append [] (itoaS n6)) [32]) (itoaS n7)) + 1 ≤ 9223372036854775807)) (gAnd (decide (List.length (72 :: 84 :: 84 :: 80 :: 47 :: 49 :: 46 :: List.append (List.append (List.append (List.append [] (itoaS n6)) [32]) (itoaS n7)) [32]) + List.length w ≤ 9223372036854775807)) (∃ (mi8 : Int) (bad9 : Bool) (s10 : List UInt8), List.length s10 ≤ 100000 ∧ [AV.int IntKind.i64 n, AV.bool true, AV.str (72 :: 84 :: 84 :: 80 :: 47 :: 49 :: 46 :: List.append (List.append (List.append (List.append (List.append [] (itoaS n6)) [32]) (itoaS n7)) [32]) w)] = [AV.int IntKind.i64 mi8, AV.bool bad9, AV.str s10] ∧ AV.tup [AV.str (Prod.fst (doneB mi8 bad9 s10)), AV.int IntKind.i64 (Prod.snd (doneB mi8 bad9 s10))] = v)))))) (∃ (l11 : List UInt8) (s12 : List UInt8), List.length l11 ≤ 6 ∧ List.length l11 % 2 = 0 ∧ List.length s12 ≤ 100000 ∧ [AV.str [9, 9, 32, 126, 128, 255], AV.str w] = [AV.str l11, AV.str s12] ∧ ∃ (n13 : Int), -9223372036854775808 ≤ n13 ∧ n13 ≤ 9223372036854775807 ∧ [AV.int IntKind.i64 n] = [AV.int IntKind.i64 n13] ∧ gAnd (decide (7 + List.length (itoaS n13) ≤ 9223372036854775807)) (gAnd (decide (List.length (72 :: 84 :: 84 :: 80 :: 47 :: 49 :: 46 :: List.append [] (itoaS n13)) + 1 ≤ 9223372036854775807)) (∃ (n14 : Int), -9223372036854775808 ≤ n14 ∧ n14 ≤ 9223372036854775807 ∧ [AV.int IntKind.i64 st] = [AV.int IntKind.i64 n14] ∧ gAnd (decide (List.length (72 :: 84 :: 84 :: 80 :: 47 :: 49 :: 46 :: List.append (List.append [] (itoaS n13)) [32]) + List.length (itoaS n14) ≤ 9223372036854775807)) (gAnd (decide (List.length (72 :: 84 :: 84 :: 80 :: 47 :: 49 :: 46 :: List.append (List.append (List.append [] (itoaS n13)) [32]) (itoaS n14)) + 1 ≤ 9223372036854775807)) (gAnd (decide (List.length (72 :: 84 :: 84 :: 80 :: 47 :: 49 :: 46 :: List.append (List.append (List.append (List.append [] (itoaS n13)) [32]) (itoaS n14)) [32]) + List.length w ≤ 9223372036854775807)) (∃ (mi15 : Int) (bad16 : Bool) (s17 : List UInt8), List.length s17 ≤ 100000 ∧ [AV.int IntKind.i64 n, AV.bool !List.all s12 (inL l11), AV.str (72 :: 84 :: 84 :: 80 :: 47 :: 49 :: 46 :: List.append (List.append (List.append (List.append (List.append [] (itoaS n13)) [32]) (itoaS n14)) [32]) w)] = [AV.int IntKind.i64 mi15, AV.bool bad16, AV.str s17] ∧ AV.tup [AV.str (Prod.fst (doneB mi15 bad16 s17)), AV.int IntKind.i64 (Prod.snd (doneB mi15 bad16 s17))] = v)))))))) : ToEnd cfg 53 (bodyOf Tryz.f53) (RetIs Tryz.prog Tryz.f53 v) ([.code []]) .normal ([(0, true, .int .i64 st), (1, true, .str w), (2, true, .int .i64 n)]) ([]) := by
  exact unr_ok (pl := ⟨[], []⟩) hT 100000 _ _ _ _ (unr_use H (by kernel_rfl))

theorem t60 {v : AV} {a b : List UInt8} {n : Int} (hT : TabOk cfg (ctab [(81, strC tokenB), (82, strC (fun s => s.all targetB && !s.isEmpty)), (95, versC)])) (H : ∃ (s1 : List UInt8), List.length s1 ≤ 100000 ∧ [AV.str a] = [AV.str s1] ∧ ifP (!tokenB s1) (AV.tup [AV.str [], AV.int IntKind.i64 4] = v) (∃ (s2 : List UInt8), List.length s2 ≤ 100000 ∧ [AV.str b] = [AV.str s2] ∧ ifP (!(List.all s2 targetB && !List.isEmpty s2)) (AV.tup [AV.str [], AV.int IntKind.i64 4] = v) (ifP (n != 0) (ifP (n != 1) (AV.tup [AV.str [], AV.int IntKind.i64 4] = v) (gAnd (decide (List.length a + 1 ≤ 9223372036854775807)) (gAnd (decide (List.length (a ++ [32]) + List.length b ≤ 9223372036854775807)) (gAnd (decide (List.length (a ++ [32] ++ b) + 1 ≤ 9223372036854775807)) (∃ (n3 : Int), [AV.int IntKind.i64 n] = [AV.int IntKind.i64 n3] ∧ gAnd (decide (List.length (a ++ [32] ++ b ++ [32]) + List.length (verM n3) ≤ 9223372036854775807)) (ifP (decide ((↑(List.length b) : Int) > 1024)) (AV.tup [AV.str [], AV.int IntKind.i64 3] = v) (ifP (decide ((↑(List.length (a ++ [32] ++ b ++ [32] ++ verM n3)) : Int) > 2048)) (AV.tup [AV.str [], AV.int IntKind.i64 3] = v) (AV.tup [AV.str (a ++ [32] ++ b ++ [32] ++ verM n3), AV.int IntKind.i64 0] = v)))))))) (gAnd (decide (List.length a + 1 ≤ 9223372036854775807)) (gAnd (decide (List.length (a ++ [32]) + List.length b ≤ 9223372036854775807)) (gAnd (decide (List.length (a ++ [32] ++ b) + 1 ≤ 9223372036854775807)) (∃ (n4 : Int), [AV.int IntKind.i64 n] = [AV.int IntKind.i64 n4] ∧ gAnd (decide (List.length (a ++ [32] ++ b ++ [32]) + List.length (verM n4) ≤ 9223372036854775807)) (ifP (decide ((↑(List.length b) : Int) > 1024)) (AV.tup [AV.str [], AV.int IntKind.i64 3] = v) (ifP (decide ((↑(List.length (a ++ [32] ++ b ++ [32] ++ verM n4)) : Int) > 2048)) (AV.tup [AV.str [], AV.int IntKind.i64 3] = v) (AV.tup [AV.str (a ++ [32] ++ b ++ [32] ++ verM n4), AV.int IntKind.i64 0] = v)))))))))) : ToEnd cfg 60 (bodyOf Tryz.f60) (RetIs Tryz.prog Tryz.f60 v) ([.code []]) .normal ([(0, true, .str a), (1, true, .str b), (2, true, .int .i64 n)]) ([]) := by
  exact unr_ok (pl := ⟨[], []⟩) hT 100000 _ _ _ _ (unr_use H (by kernel_rfl))

theorem t56 {v : AV} {st n : Int} {w : List UInt8} (hT : TabOk cfg (ctab [(90, strC fun s => s.all reasonB), (95, versC)])) (H : ifP (decide (st < 100)) (AV.tup [AV.str [], AV.int IntKind.i64 4] = v) (ifP (decide (st > 599)) (AV.tup [AV.str [], AV.int IntKind.i64 4] = v) (∃ (s1 : List UInt8), List.length s1 ≤ 100000 ∧ [AV.str w] = [AV.str s1] ∧ ifP (!List.all s1 reasonB) (AV.tup [AV.str [], AV.int IntKind.i64 4] = v) (ifP (n != 0) (ifP (n != 1) (AV.tup [AV.str [], AV.int IntKind.i64 4] = v) (gAnd (rowsB [[AV.int IntKind.u8 (IntKind.wrap IntKind.u8 (IntKind.wrap IntKind.i64 (48 + IntKind.wrap IntKind.i64 (Int.tdiv st 100))))], [AV.int IntKind.u8 (IntKind.wrap IntKind.u8 (IntKind.wrap IntKind.i64 (48 + Int.tmod (IntKind.wrap IntKind.i64 (Int.tdiv st 10)) 10)))], [AV.int IntKind.u8 (IntKind.wrap IntKind.u8 (IntKind.wrap IntKind.i64 (48 + Int.tmod st 10)))]]) (∃ (n2 : Int), [AV.int IntKind.i64 n] = [AV.int IntKind.i64 n2] ∧ gAnd (decide (List.length (verM n2) + 1 ≤ 9223372036854775807)) (gAnd (decide (List.length (verM n2 ++ [32]) + 3 ≤ 9223372036854775807)) (gAnd (decide (List.length (verM n2 ++ [32] ++ [rowV [AV.int IntKind.u8 (IntKind.wrap IntKind.u8 (IntKind.wrap IntKind.i64 (48 + IntKind.wrap IntKind.i64 (Int.tdiv st 100))))], rowV [AV.int IntKind.u8 (IntKind.wrap IntKind.u8 (IntKind.wrap IntKind.i64 (48 + Int.tmod (IntKind.wrap IntKind.i64 (Int.tdiv st 10)) 10)))], rowV [AV.int IntKind.u8 (IntKind.wrap IntKind.u8 (IntKind.wrap IntKind.i64 (48 + Int.tmod st 10)))]]) + 1 ≤ 9223372036854775807)) (gAnd (decide (List.length (verM n2 ++ [32] ++ [rowV [AV.int IntKind.u8 (IntKind.wrap IntKind.u8 (IntKind.wrap IntKind.i64 (48 + IntKind.wrap IntKind.i64 (Int.tdiv st 100))))], rowV [AV.int IntKind.u8 (IntKind.wrap IntKind.u8 (IntKind.wrap IntKind.i64 (48 + Int.tmod (IntKind.wrap IntKind.i64 (Int.tdiv st 10)) 10)))], rowV [AV.int IntKind.u8 (IntKind.wrap IntKind.u8 (IntKind.wrap IntKind.i64 (48 + Int.tmod st 10)))]] ++ [32]) + List.length w ≤ 9223372036854775807)) (ifP (decide ((↑(List.length (verM n2 ++ [32] ++ [rowV [AV.int IntKind.u8 (IntKind.wrap IntKind.u8 (IntKind.wrap IntKind.i64 (48 + IntKind.wrap IntKind.i64 (Int.tdiv st 100))))], rowV [AV.int IntKind.u8 (IntKind.wrap IntKind.u8 (IntKind.wrap IntKind.i64 (48 + Int.tmod (IntKind.wrap IntKind.i64 (Int.tdiv st 10)) 10)))], rowV [AV.int IntKind.u8 (IntKind.wrap IntKind.u8 (IntKind.wrap IntKind.i64 (48 + Int.tmod st 10)))]] ++ [32] ++ w)) : Int) > 2048)) (AV.tup [AV.str [], AV.int IntKind.i64 3] = v) (AV.tup [AV.str (verM n2 ++ [32] ++ [rowV [AV.int IntKind.u8 (IntKind.wrap IntKind.u8 (IntKind.wrap IntKind.i64 (48 + IntKind.wrap IntKind.i64 (Int.tdiv st 100))))], rowV [AV.int IntKind.u8 (IntKind.wrap IntKind.u8 (IntKind.wrap IntKind.i64 (48 + Int.tmod (IntKind.wrap IntKind.i64 (Int.tdiv st 10)) 10)))], rowV [AV.int IntKind.u8 (IntKind.wrap IntKind.u8 (IntKind.wrap IntKind.i64 (48 + Int.tmod st 10)))]] ++ [32] ++ w), AV.int IntKind.i64 0] = v)))))))) (gAnd (rowsB [[AV.int IntKind.u8 (IntKind.wrap IntKind.u8 (IntKind.wrap IntKind.i64 (48 + IntKind.wrap IntKind.i64 (Int.tdiv st 100))))], [AV.int IntKind.u8 (IntKind.wrap IntKind.u8 (IntKind.wrap IntKind.i64 (48 + Int.tmod (IntKind.wrap IntKind.i64 (Int.tdiv st 10)) 10)))], [AV.int IntKind.u8 (IntKind.wrap IntKind.u8 (IntKind.wrap IntKind.i64 (48 + Int.tmod st 10)))]]) (∃ (n3 : Int), [AV.int IntKind.i64 n] = [AV.int IntKind.i64 n3] ∧ gAnd (decide (List.length (verM n3) + 1 ≤ 9223372036854775807)) (gAnd (decide (List.length (verM n3 ++ [32]) + 3 ≤ 9223372036854775807)) (gAnd (decide (List.length (verM n3 ++ [32] ++ [rowV [AV.int IntKind.u8 (IntKind.wrap IntKind.u8 (IntKind.wrap IntKind.i64 (48 + IntKind.wrap IntKind.i64 (Int.tdiv st 100))))], rowV [AV.int IntKind.u8 (IntKind.wrap IntKind.u8 (IntKind.wrap IntKind.i64 (48 + Int.tmod (IntKind.wrap IntKind.i64 (Int.tdiv st 10)) 10)))], rowV [AV.int IntKind.u8 (IntKind.wrap IntKind.u8 (IntKind.wrap IntKind.i64 (48 + Int.tmod st 10)))]]) + 1 ≤ 9223372036854775807)) (gAnd (decide (List.length (verM n3 ++ [32] ++ [rowV [AV.int IntKind.u8 (IntKind.wrap IntKind.u8 (IntKind.wrap IntKind.i64 (48 + IntKind.wrap IntKind.i64 (Int.tdiv st 100))))], rowV [AV.int IntKind.u8 (IntKind.wrap IntKind.u8 (IntKind.wrap IntKind.i64 (48 + Int.tmod (IntKind.wrap IntKind.i64 (Int.tdiv st 10)) 10)))], rowV [AV.int IntKind.u8 (IntKind.wrap IntKind.u8 (IntKind.wrap IntKind.i64 (48 + Int.tmod st 10)))]] ++ [32]) + List.length w ≤ 9223372036854775807)) (ifP (decide ((↑(List.length (verM n3 ++ [32] ++ [rowV [AV.int IntKind.u8 (IntKind.wrap IntKind.u8 (IntKind.wrap IntKind.i64 (48 + IntKind.wrap IntKind.i64 (Int.tdiv st 100))))], rowV [AV.int IntKind.u8 (IntKind.wrap IntKind.u8 (IntKind.wrap IntKind.i64 (48 + Int.tmod (IntKind.wrap IntKind.i64 (Int.tdiv st 10)) 10)))], rowV [AV.int IntKind.u8 (IntKind.wrap IntKind.u8 (IntKind.wrap IntKind.i64 (48 + Int.tmod st 10)))]] ++ [32] ++ w)) : Int) > 2048)) (AV.tup [AV.str [], AV.int IntKind.i64 3] = v) (AV.tup [AV.str (verM n3 ++ [32] ++ [rowV [AV.int IntKind.u8 (IntKind.wrap IntKind.u8 (IntKind.wrap IntKind.i64 (48 + IntKind.wrap IntKind.i64 (Int.tdiv st 100))))], rowV [AV.int IntKind.u8 (IntKind.wrap IntKind.u8 (IntKind.wrap IntKind.i64 (48 + Int.tmod (IntKind.wrap IntKind.i64 (Int.tdiv st 10)) 10)))], rowV [AV.int IntKind.u8 (IntKind.wrap IntKind.u8 (IntKind.wrap IntKind.i64 (48 + Int.tmod st 10)))]] ++ [32] ++ w), AV.int IntKind.i64 0] = v))))))))))) : ToEnd cfg 56 (bodyOf Tryz.f56) (RetIs Tryz.prog Tryz.f56 v) ([.code []]) .normal ([(0, true, .int .i64 st), (1, true, .str w), (2, true, .int .i64 n)]) ([]) := by
  exact unr_ok (pl := ⟨[], []⟩) hT 100000 _ _ _ _ (unr_use H (by kernel_rfl))

end Go.Proofs.YtnncfdlpogjlkaaGreatDoor.Ln
end

section
namespace Go.Proofs.YtnncfdlpogjlkaaGreatDoor.Ln
open Go.Ai Go.Ai.Ln Go
set_option linter.unusedSimpArgs false
set_option linter.unusedVariables false
set_option linter.unnecessarySimpa false
set_option maxRecDepth 100000

theorem pf58 : pureFn cfg 58 Tryz.f58 := ⟨by kernel_rfl, by kernel_rfl, by kernel_rfl, by kernel_rfl, by kernel_rfl, by kernel_rfl⟩
theorem pf60 : pureFn cfg 60 Tryz.f60 := ⟨by kernel_rfl, by kernel_rfl, by kernel_rfl, by kernel_rfl, by kernel_rfl, by kernel_rfl⟩
theorem pf53 : pureFn cfg 53 Tryz.f53 := ⟨by kernel_rfl, by kernel_rfl, by kernel_rfl, by kernel_rfl, by kernel_rfl, by kernel_rfl⟩
theorem pf56 : pureFn cfg 56 Tryz.f56 := ⟨by kernel_rfl, by kernel_rfl, by kernel_rfl, by kernel_rfl, by kernel_rfl, by kernel_rfl⟩
theorem okL {x : Nat} (h : x ≤ 9223372036854775807) : decide (x ≤ 9223372036854775807) = true := decide_eq_true h

def reqT (a b : List UInt8) (n : Int) : List UInt8 := a ++ [32] ++ b ++ [32, 72, 84, 84, 80, 47, 49, 46] ++ itoaS n
theorem reqT_eq {a b : List UInt8} {n : Int} (h0 : 0 ≤ n) (h1 : n ≤ 1) : reqT a b n = reqS a b n := by
  unfold reqT reqS
  rw [itoa_mi h0 h1]
  simp [verS]
theorem reqT_len (a b : List UInt8) (n : Int) : (reqT a b n).length ≤ a.length + b.length + 40 := by
  have := itoaS_len n
  unfold reqT
  simp; omega
theorem put_done {a b : List UInt8} {n : Int} {bad : Bool} (hb : bad = badReq a b) :
    ifP ((doneB n bad (reqT a b n)).2 == 0) (ifP (decide ((b.length : Int) > 1024)) (AV.tup [AV.str [], AV.int .i64 3] = AV.tup [AV.str (putReq a b n).1, AV.int .i64 (putReq a b n).2]) (AV.tup [AV.str (doneB n bad (reqT a b n)).1, AV.int .i64 (doneB n bad (reqT a b n)).2] = AV.tup [AV.str (putReq a b n).1, AV.int .i64 (putReq a b n).2]))
      (AV.tup [AV.str (doneB n bad (reqT a b n)).1, AV.int .i64 (doneB n bad (reqT a b n)).2] = AV.tup [AV.str (putReq a b n).1, AV.int .i64 (putReq a b n).2]) := by
  subst hb
  unfold doneB putReq
  by_cases h : (badReq a b || decide (n < 0) || decide (1 < n)) = true
  · rw [if_pos h, if_pos h]
    exact ifP_intro (fun k => by cases k) fun _ => rfl
  · rw [if_neg h, if_neg h]
    obtain ⟨b1, b2, b3⟩ := no_bad (Bool.eq_false_iff.2 h)
    simp only [decide_eq_false_iff_not] at b2 b3
    rw [reqT_eq (by omega) (by omega)]
    by_cases hl : 2048 < (reqS a b n).length
    · rw [if_pos hl, if_pos (.inr hl)]
      exact ifP_intro (fun k => by cases k) fun _ => rfl
    · rw [if_neg hl]
      refine ifP_intro (fun _ => ifP_intro (fun k => ?_) fun k => ?_) fun k => by cases k
      · simp only [decide_eq_true_eq] at k
        rw [if_pos (.inl (by omega))]
      · simp only [decide_eq_false_iff_not] at k
        rw [if_neg (by omega)]
theorem c58 : COk cfg 58 putReqC := by
  have hT := ctab_ok (ctab_cons c74 (ctab_cons c75 (ctab_cons c91 (ctab_cons c92 ctab_nil))))
  refine cok_pure pf58 fun vs h K ht => ?_
  obtain ⟨a, b, n, ha, hb, ⟨hn0, hn1⟩, rfl, hk⟩ := ht
  have hi := itoaS_len n
  have hlen := reqT_len a b n
  refine ⟨_, hk, t58 hT ⟨a, by omega, rfl, ifP_intro (fun k => ?_) fun k => ifP_intro (fun m => ?_) fun m => ⟨[33, 126], b, by decide, by decide, by omega, rfl, ?_⟩⟩⟩
  all_goals
    refine gAnd_intro (okL (by omega)) (gAnd_intro (okL (by simp; omega)) (gAnd_intro (okL (by simp; omega)) ⟨n, hn0, hn1, rfl, gAnd_intro (okL (by simp; omega)) ⟨n, _, reqT a b n, by omega, rfl, put_done ?_⟩⟩))
  · have : tokenB a = false := by simpa using k
    simp [badReq, this]
  · have : b = [] := by simpa using m
    simp [badReq, this]
  · have h1 : tokenB a = true := by simpa using k
    have h2 : b.isEmpty = false := by rw [emp_eq]; exact m
    rw [all_target]
    simp [badReq, h1, h2]

theorem c60 : COk cfg 60 putReqC := by
  have hT := ctab_ok (ctab_cons c81 (ctab_cons c82 (ctab_cons c95 ctab_nil)))
  refine cok_pure pf60 fun vs h K ht => ?_
  obtain ⟨a, b, n, ha, hb, ⟨hn0, hn1⟩, rfl, hk⟩ := ht
  have bad : badReq a b = true → AV.tup [AV.str [], AV.int .i64 4] = AV.tup [AV.str (putReq a b n).1, AV.int .i64 (putReq a b n).2] := fun hb => by
    unfold putReq
    rw [hb, if_pos (by simp)]
  have fin : badReq a b = false → n = 0 ∨ n = 1 → ifP (decide ((b.length : Int) > 1024)) (AV.tup [AV.str [], AV.int .i64 3] = AV.tup [AV.str (putReq a b n).1, AV.int .i64 (putReq a b n).2])
      (ifP (decide (((a ++ [32] ++ b ++ [32] ++ verM n).length : Int) > 2048)) (AV.tup [AV.str [], AV.int .i64 3] = AV.tup [AV.str (putReq a b n).1, AV.int .i64 (putReq a b n).2])
        (AV.tup [AV.str (a ++ [32] ++ b ++ [32] ++ verM n), AV.int .i64 0] = AV.tup [AV.str (putReq a b n).1, AV.int .i64 (putReq a b n).2])) := fun hb hn => by
    have e : (a ++ [32] ++ b ++ [32] ++ verM n) = reqS a b n := by
      unfold reqS verM
      rcases hn with rfl | rfl <;> simp [verS] <;> rfl
    rw [e]
    unfold putReq
    rw [hb, decide_eq_false (p := n < 0) (by omega), decide_eq_false (p := 1 < n) (by omega), if_neg (by simp)]
    refine ifP_intro (fun k => ?_) fun k => ifP_intro (fun m => ?_) fun m => ?_
    · simp only [decide_eq_true_eq] at k
      rw [if_pos (.inl (by omega))]
    · simp only [decide_eq_true_eq] at m
      rw [if_pos (.inr (by omega))]
    · simp only [decide_eq_false_iff_not] at k m
      rw [if_neg (by omega)]
  have hver : (verM n).length = 8 := by unfold verM; split <;> rfl
  refine ⟨_, hk, t60 hT ⟨a, by omega, rfl, ifP_intro (fun k => bad ?_) fun k => ⟨b, by omega, rfl, ifP_intro (fun m => bad ?_) fun m => ifP_intro (fun p => ifP_intro (fun q => ?_) fun q => ?_) fun p => ?_⟩⟩⟩
  · have : tokenB a = false := by simpa using k
    simp [badReq, this]
  · have : (b.all targetB && !b.isEmpty) = false := Eq.mp (Bool.not_eq_true' _) m
    unfold badReq
    cases h1 : b.all targetB <;> cases h2 : b.isEmpty <;> simp_all
  · unfold putReq
    have h1 : ¬n = 0 := by simpa using p
    have h2 : ¬n = 1 := by simpa using q
    rw [if_pos]
    simp only [Bool.or_eq_true, decide_eq_true_eq]
    omega
  all_goals
    have hbad : badReq a b = false := by
      have h1 : tokenB a = true := by simpa using k
      have h2 : (b.all targetB && !b.isEmpty) = true := Eq.mp (Bool.not_eq_false' _) m
      simp only [Bool.and_eq_true, Bool.not_eq_true'] at h2
      simp [badReq, h1, h2.1, h2.2]
    refine gAnd_intro (okL (by omega)) (gAnd_intro (okL (by simp; omega)) (gAnd_intro (okL (by simp; omega)) ⟨n, rfl, gAnd_intro (okL (by rw [hver]; simp; omega)) (fin hbad ?_)⟩))
  · exact .inr (by simpa using q)
  · exact .inl (by simpa using p)

def stT (st : Int) (w : List UInt8) (n : Int) : List UInt8 := [72, 84, 84, 80, 47, 49, 46] ++ itoaS n ++ [32] ++ itoaS st ++ [32] ++ w
theorem stT_eq {st : Int} {w : List UInt8} {n : Int} (h0 : 0 ≤ n) (h1 : n ≤ 1) (h2 : 100 ≤ st) (h3 : st ≤ 599) : stT st w n = stS st w n := by
  unfold stT stS
  rw [itoa_mi h0 h1, itoa_st h2 h3]
  simp [verS]
theorem stT_len (st : Int) (w : List UInt8) (n : Int) : (stT st w n).length ≤ w.length + 60 := by
  have := itoaS_len n
  have := itoaS_len st
  unfold stT
  simp; omega
theorem putst_done {st : Int} {w : List UInt8} {n : Int} {bad : Bool} (hb : bad = badSt st w) :
    AV.tup [AV.str (doneB n bad (stT st w n)).1, AV.int .i64 (doneB n bad (stT st w n)).2] = AV.tup [AV.str (putSt st w n).1, AV.int .i64 (putSt st w n).2] := by
  subst hb
  have : doneB n (badSt st w) (stT st w n) = putSt st w n := by
    unfold doneB putSt
    by_cases h : (badSt st w || decide (n < 0) || decide (1 < n)) = true
    · rw [if_pos h, if_pos h]
    · rw [if_neg h, if_neg h]
      obtain ⟨b1, b2, b3⟩ := no_bad (Bool.eq_false_iff.2 h)
      simp only [decide_eq_false_iff_not] at b2 b3
      simp only [badSt, Bool.or_eq_false_iff, decide_eq_false_iff_not] at b1
      rw [stT_eq (by omega) (by omega) (by omega) (by omega)]
  rw [this]
theorem c53 : COk cfg 53 putStC := by
  have hT := ctab_ok (ctab_cons c74 (ctab_cons c91 (ctab_cons c92 ctab_nil)))
  refine cok_pure pf53 fun vs h K ht => ?_
  obtain ⟨st, w, n, hw, ⟨hs0, hs1⟩, ⟨hn0, hn1⟩, rfl, hk⟩ := ht
  have hi := itoaS_len n
  have hi2 := itoaS_len st
  have hlen := stT_len st w n
  refine ⟨_, hk, t53 hT (ifP_intro (fun k => ?_) fun k => ifP_intro (fun m => ?_) fun m => ⟨[9, 9, 32, 126, 128, 255], w, by decide, by decide, by omega, rfl, ?_⟩)⟩
  all_goals
    refine ⟨n, hn0, hn1, rfl, gAnd_intro (okL (by omega)) (gAnd_intro (okL (x := ([72, 84, 84, 80, 47, 49, 46] ++ itoaS n).length + 1) (by simp; omega)) ⟨st, hs0, hs1, rfl, gAnd_intro (okL (x := ([72, 84, 84, 80, 47, 49, 46] ++ itoaS n ++ [32]).length + (itoaS st).length) (by simp; omega))
      (gAnd_intro (okL (x := ([72, 84, 84, 80, 47, 49, 46] ++ itoaS n ++ [32] ++ itoaS st).length + 1) (by simp; omega)) (gAnd_intro (okL (x := ([72, 84, 84, 80, 47, 49, 46] ++ itoaS n ++ [32] ++ itoaS st ++ [32]).length + w.length) (by simp; omega)) ⟨n, _, stT st w n, by omega, rfl, putst_done ?_⟩))⟩)⟩
  · simp only [decide_eq_true_eq] at k
    unfold badSt
    rw [decide_eq_true k]; rfl
  · simp only [decide_eq_true_eq] at m
    unfold badSt
    rw [decide_eq_true (p := 599 < st) (by omega)]; simp
  · simp only [decide_eq_false_iff_not] at k m
    unfold badSt
    rw [all_reason, decide_eq_false k, decide_eq_false (p := 599 < st) (by omega)]; rfl
end Go.Proofs.YtnncfdlpogjlkaaGreatDoor.Ln
end

section
namespace Go.Proofs.YtnncfdlpogjlkaaGreatDoor.Ln
open Go.Ai Go.Ai.Ln Go
set_option linter.unusedSimpArgs false
set_option linter.unusedVariables false
set_option linter.unnecessarySimpa false
set_option maxRecDepth 100000

theorem tdivN {a : Int} {b : Nat} (h : 0 ≤ a) : Int.tdiv a (b : Int) = ((a.toNat / b : Nat) : Int) := by
  obtain ⟨n, rfl⟩ : ∃ n : Nat, a = n := ⟨a.toNat, by omega⟩
  rw [Int.toNat_natCast, Int.tdiv_eq_ediv_of_nonneg (by omega)]; rfl
theorem tmodI {a : Int} {b : Nat} (h : 0 ≤ a) : Int.tmod a (b : Int) = ((a.toNat % b : Nat) : Int) := by
  obtain ⟨n, rfl⟩ : ∃ n : Nat, a = n := ⟨a.toNat, by omega⟩
  rw [Int.toNat_natCast, Int.tmod_eq_emod_of_nonneg (by omega)]; rfl
theorem wrap_u8 {a : Int} (h0 : 0 ≤ a) (h1 : a < 256) : IntKind.wrap .u8 a = a := by
  simp only [IntKind.wrap, IntKind.signed, IntKind.bits]; simp; omega
theorem c56 : COk cfg 56 putStC := by
  have hT := ctab_ok (ctab_cons c90 (ctab_cons c95 ctab_nil))
  refine cok_pure pf56 fun vs h K ht => ?_
  obtain ⟨st, w, n, hw, ⟨hs0, hs1⟩, ⟨hn0, hn1⟩, rfl, hk⟩ := ht
  have bad : (badSt st w || decide (n < 0) || decide (1 < n)) = true → AV.tup [AV.str [], AV.int .i64 4] = AV.tup [AV.str (putSt st w n).1, AV.int .i64 (putSt st w n).2] := fun hb => by
    unfold putSt
    rw [if_pos hb]
  have hver : (verM n).length = 8 := by unfold verM; split <;> rfl
  refine ⟨_, hk, t56 hT (ifP_intro (fun k => bad ?_) fun k => ifP_intro (fun m => bad ?_) fun m => ⟨w, by omega, rfl, ifP_intro (fun o => bad ?_) fun o => ifP_intro (fun p => ifP_intro (fun q => bad ?_) fun q => ?_) fun p => ?_⟩)⟩
  · unfold badSt
    rw [k]; rfl
  · simp only [decide_eq_true_eq] at m
    unfold badSt
    rw [decide_eq_true (p := 599 < st) (by omega)]; simp
  · unfold badSt
    rw [o]; simp
  · have h1 : ¬n = 0 := by simpa using p
    have h2 : ¬n = 1 := by simpa using q
    simp only [Bool.or_eq_true, decide_eq_true_eq]
    omega
  all_goals
    simp only [decide_eq_false_iff_not] at k m
    have hn : n = 0 ∨ n = 1 := by
      first
      | exact .inr (by simpa using q)
      | exact .inl (by simpa using p)
    have e1 : Int.tdiv st 100 = ((st.toNat / 100 : Nat) : Int) := tdivN (b := 100) (by omega)
    have e2 : Int.tdiv st 10 = ((st.toNat / 10 : Nat) : Int) := tdivN (b := 10) (by omega)
    have e3 : Int.tmod st 10 = ((st.toNat % 10 : Nat) : Int) := tmodI (b := 10) (by omega)
    have e4 : Int.tmod ((st.toNat / 10 : Nat) : Int) 10 = ((st.toNat / 10 % 10 : Nat) : Int) := by rw [show (10 : Int) = ((10 : Nat) : Int) from rfl, tmodI (by omega), Int.toNat_natCast]
    have w1 : IntKind.wrap .i64 ((st.toNat / 100 : Nat) : Int) = ((st.toNat / 100 : Nat) : Int) := wrap_in (by omega) (by omega)
    have w2 : IntKind.wrap .i64 ((st.toNat / 10 : Nat) : Int) = ((st.toNat / 10 : Nat) : Int) := wrap_in (by omega) (by omega)
    have w3 : IntKind.wrap .i64 (48 + ((st.toNat / 100 : Nat) : Int)) = 48 + ((st.toNat / 100 : Nat) : Int) := wrap_in (by omega) (by omega)
    have w4 : IntKind.wrap .i64 (48 + ((st.toNat / 10 % 10 : Nat) : Int)) = 48 + ((st.toNat / 10 % 10 : Nat) : Int) := wrap_in (by omega) (by omega)
    have w5 : IntKind.wrap .i64 (48 + ((st.toNat % 10 : Nat) : Int)) = 48 + ((st.toNat % 10 : Nat) : Int) := wrap_in (by omega) (by omega)
    rw [e1, e2, e3, w1, w2, e4, w3, w4, w5, wrap_u8 (a := 48 + ((st.toNat / 100 : Nat) : Int)) (by omega) (by omega), wrap_u8 (a := 48 + ((st.toNat / 10 % 10 : Nat) : Int)) (by omega) (by omega), wrap_u8 (a := 48 + ((st.toNat % 10 : Nat) : Int)) (by omega) (by omega)]
    have t7001 : Int.toNat (48 + ((st.toNat / 100 : Nat) : Int)) = 48 + st.toNat / 100 := by omega
    have t7002 : Int.toNat (48 + ((st.toNat / 10 % 10 : Nat) : Int)) = 48 + st.toNat / 10 % 10 := by omega
    have t7003 : Int.toNat (48 + ((st.toNat % 10 : Nat) : Int)) = 48 + st.toNat % 10 := by omega
    have v1 : rowV [AV.int IntKind.u8 (48 + ((st.toNat / 100 : Nat) : Int))] = UInt8.ofNat (48 + st.toNat / 100) := by show UInt8.ofNat (Int.toNat _) = _; rw [t7001]
    have v2 : rowV [AV.int IntKind.u8 (48 + ((st.toNat / 10 % 10 : Nat) : Int))] = UInt8.ofNat (48 + st.toNat / 10 % 10) := by show UInt8.ofNat (Int.toNat _) = _; rw [t7002]
    have v3 : rowV [AV.int IntKind.u8 (48 + ((st.toNat % 10 : Nat) : Int))] = UInt8.ofNat (48 + st.toNat % 10) := by show UInt8.ofNat (Int.toNat _) = _; rw [t7003]
    rw [v1, v2, v3]
    have es : verM n ++ [32] ++ [UInt8.ofNat (48 + st.toNat / 100), UInt8.ofNat (48 + st.toNat / 10 % 10), UInt8.ofNat (48 + st.toNat % 10)] ++ [32] ++ w = stS st w n := by
      unfold stS verM
      rcases hn with rfl | rfl <;> simp [verS]
    have hb : badSt st w = false := by
      unfold badSt
      rw [decide_eq_false k, decide_eq_false (p := 599 < st) (by omega), Eq.mp (Bool.not_eq_false' _) o]; rfl
    refine gAnd_intro ?_ ⟨n, rfl, gAnd_intro (okL (by rw [hver]; omega)) (gAnd_intro (okL (by simp [hver])) (gAnd_intro (okL (by simp [hver])) (gAnd_intro (okL (by simp [hver]; omega)) ?_)))⟩
    · simp [rowsB, rowB, cellB]
      omega
    · rw [es]
      unfold putSt
      rw [hb, decide_eq_false (p := n < 0) (by omega), decide_eq_false (p := 1 < n) (by omega), if_neg (by simp)]
      refine ifP_intro (fun z => ?_) fun z => ?_
      · simp only [decide_eq_true_eq] at z
        rw [if_pos (by omega)]
      · simp only [decide_eq_false_iff_not] at z
        rw [if_neg (by omega)]

end Go.Proofs.YtnncfdlpogjlkaaGreatDoor.Ln
end

section
namespace Go.Proofs.YtnncfdlpogjlkaaGreatDoor.Ln
open Go.Ai Go.Ai.Ln Go
set_option linter.unusedSimpArgs false
set_option linter.unusedVariables false
set_option linter.unnecessarySimpa false
set_option maxRecDepth 100000

end Go.Proofs.YtnncfdlpogjlkaaGreatDoor.Ln
end
