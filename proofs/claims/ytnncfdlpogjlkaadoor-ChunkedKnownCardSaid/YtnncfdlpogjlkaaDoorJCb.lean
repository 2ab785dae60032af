/-
  Runs of functions of bodies in chunks, printed by a home tool; each is the kernel's word.
  Tokens, values, fields out of their lines: the functions keep to their contracts.
  Fields out of their lines, hexadecimal digits, ends of lines: the functions keep to their contracts.
-/
import Derived.Test.YtnncfdlpogjlkaaDoorCfg
import Derived.Test.YtnncfdlpogjlkaaDoorJCa
import Derived.Test.YtnncfdlpogjlkaaDoorJMb
section
namespace Go.Proofs.YtnncfdlpogjlkaaDoor
open Go.Ai Go
set_option maxRecDepth 100000
set_option linter.unusedVariables false
theorem t133 {v : AV} {c : Int} (hT : TabOk cfg (ctab [])) (H :
    ifP (decide (c ≥ 65)) (ifP (decide (c ≤ 90)) (AV.bool true = v) (ifP (decide (c ≥ 97)) (ifP (decide (c ≤ 122)) (AV.bool true = v) (ifP (decide (c ≥ 48)) (AV.bool (decide (c ≤ 57)) = v) (AV.bool false = v))) (ifP (decide (c ≥ 48)) (AV.bool (decide (c ≤ 57)) = v) (AV.bool false = v)))) (ifP (decide (c ≥ 97)) (ifP (decide (c ≤ 122)) (AV.bool true = v) (ifP (decide (c ≥ 48)) (AV.bool (decide (c ≤ 57)) = v) (AV.bool false = v))) (ifP (decide (c ≥ 48)) (AV.bool (decide (c ≤ 57)) = v) (AV.bool false = v)))) :
    ToEnd cfg 133 (bodyOf Tryd.f133) (RetIs Tryd.prog Tryd.f133 v) ([.code []]) .normal ([(0, true, .int .u8 c)]) ([]) := by
  have e : unr cfg 133 (bodyOf Tryd.f133) (ctab []) ⟨[], []⟩ (RetIs Tryd.prog Tryd.f133 v) 100000 ([.code []]) .normal ([(0, true, .int .u8 c)]) ([]) =
    (ifP (decide (c ≥ 65)) (ifP (decide (c ≤ 90)) (AV.bool true = v) (ifP (decide (c ≥ 97)) (ifP (decide (c ≤ 122)) (AV.bool true = v) (ifP (decide (c ≥ 48)) (AV.bool (decide (c ≤ 57)) = v) (AV.bool false = v))) (ifP (decide (c ≥ 48)) (AV.bool (decide (c ≤ 57)) = v) (AV.bool false = v)))) (ifP (decide (c ≥ 97)) (ifP (decide (c ≤ 122)) (AV.bool true = v) (ifP (decide (c ≥ 48)) (AV.bool (decide (c ≤ 57)) = v) (AV.bool false = v))) (ifP (decide (c ≥ 48)) (AV.bool (decide (c ≤ 57)) = v) (AV.bool false = v)))) := by kernel_rfl
  exact unr_ok hT 100000 _ _ _ _ (e.mpr H)

theorem t116 {v : AV} {c : Int} (hT : TabOk cfg (ctab [(132, ixC)])) (H :
    ifP (decide (c ≥ 97)) (ifP (decide (c ≤ 122)) (AV.bool true = v) (ifP (decide (c ≥ 65)) (ifP (decide (c ≤ 90)) (AV.bool true = v) (ifP (decide (c ≥ 48)) (ifP (decide (c ≤ 57)) (AV.bool true = v) (∃ (s1 : List UInt8), ∃ (c2 : UInt8), [AV.str [33, 35, 36, 37, 38, 39, 42, 43, 45, 46, 94, 95, 96, 124, 126], AV.int IntKind.u8 c] = [AV.str s1, AV.int IntKind.u8 (↑(UInt8.toNat c2) : Int)] ∧ AV.bool (decide (Lib.indexByte s1 c2 ≥ 0)) = v)) (∃ (s3 : List UInt8), ∃ (c4 : UInt8), [AV.str [33, 35, 36, 37, 38, 39, 42, 43, 45, 46, 94, 95, 96, 124, 126], AV.int IntKind.u8 c] = [AV.str s3, AV.int IntKind.u8 (↑(UInt8.toNat c4) : Int)] ∧ AV.bool (decide (Lib.indexByte s3 c4 ≥ 0)) = v))) (ifP (decide (c ≥ 48)) (ifP (decide (c ≤ 57)) (AV.bool true = v) (∃ (s5 : List UInt8), ∃ (c6 : UInt8), [AV.str [33, 35, 36, 37, 38, 39, 42, 43, 45, 46, 94, 95, 96, 124, 126], AV.int IntKind.u8 c] = [AV.str s5, AV.int IntKind.u8 (↑(UInt8.toNat c6) : Int)] ∧ AV.bool (decide (Lib.indexByte s5 c6 ≥ 0)) = v)) (∃ (s7 : List UInt8), ∃ (c8 : UInt8), [AV.str [33, 35, 36, 37, 38, 39, 42, 43, 45, 46, 94, 95, 96, 124, 126], AV.int IntKind.u8 c] = [AV.str s7, AV.int IntKind.u8 (↑(UInt8.toNat c8) : Int)] ∧ AV.bool (decide (Lib.indexByte s7 c8 ≥ 0)) = v)))) (ifP (decide (c ≥ 65)) (ifP (decide (c ≤ 90)) (AV.bool true = v) (ifP (decide (c ≥ 48)) (ifP (decide (c ≤ 57)) (AV.bool true = v) (∃ (s9 : List UInt8), ∃ (c10 : UInt8), [AV.str [33, 35, 36, 37, 38, 39, 42, 43, 45, 46, 94, 95, 96, 124, 126], AV.int IntKind.u8 c] = [AV.str s9, AV.int IntKind.u8 (↑(UInt8.toNat c10) : Int)] ∧ AV.bool (decide (Lib.indexByte s9 c10 ≥ 0)) = v)) (∃ (s11 : List UInt8), ∃ (c12 : UInt8), [AV.str [33, 35, 36, 37, 38, 39, 42, 43, 45, 46, 94, 95, 96, 124, 126], AV.int IntKind.u8 c] = [AV.str s11, AV.int IntKind.u8 (↑(UInt8.toNat c12) : Int)] ∧ AV.bool (decide (Lib.indexByte s11 c12 ≥ 0)) = v))) (ifP (decide (c ≥ 48)) (ifP (decide (c ≤ 57)) (AV.bool true = v) (∃ (s13 : List UInt8), ∃ (c14 : UInt8), [AV.str [33, 35, 36, 37, 38, 39, 42, 43, 45, 46, 94, 95, 96, 124, 126], AV.int IntKind.u8 c] = [AV.str s13, AV.int IntKind.u8 (↑(UInt8.toNat c14) : Int)] ∧ AV.bool (decide (Lib.indexByte s13 c14 ≥ 0)) = v)) (∃ (s15 : List UInt8), ∃ (c16 : UInt8), [AV.str [33, 35, 36, 37, 38, 39, 42, 43, 45, 46, 94, 95, 96, 124, 126], AV.int IntKind.u8 c] = [AV.str s15, AV.int IntKind.u8 (↑(UInt8.toNat c16) : Int)] ∧ AV.bool (decide (Lib.indexByte s15 c16 ≥ 0)) = v)))) :
    ToEnd cfg 116 (bodyOf Tryd.f116) (RetIs Tryd.prog Tryd.f116 v) ([.code []]) .normal ([(0, true, .int .u8 c)]) ([]) := by
  have e : unr cfg 116 (bodyOf Tryd.f116) (ctab [(132, ixC)]) ⟨[], []⟩ (RetIs Tryd.prog Tryd.f116 v) 100000 ([.code []]) .normal ([(0, true, .int .u8 c)]) ([]) =
    (ifP (decide (c ≥ 97)) (ifP (decide (c ≤ 122)) (AV.bool true = v) (ifP (decide (c ≥ 65)) (ifP (decide (c ≤ 90)) (AV.bool true = v) (ifP (decide (c ≥ 48)) (ifP (decide (c ≤ 57)) (AV.bool true = v) (∃ (s1 : List UInt8), ∃ (c2 : UInt8), [AV.str [33, 35, 36, 37, 38, 39, 42, 43, 45, 46, 94, 95, 96, 124, 126], AV.int IntKind.u8 c] = [AV.str s1, AV.int IntKind.u8 (↑(UInt8.toNat c2) : Int)] ∧ AV.bool (decide (Lib.indexByte s1 c2 ≥ 0)) = v)) (∃ (s3 : List UInt8), ∃ (c4 : UInt8), [AV.str [33, 35, 36, 37, 38, 39, 42, 43, 45, 46, 94, 95, 96, 124, 126], AV.int IntKind.u8 c] = [AV.str s3, AV.int IntKind.u8 (↑(UInt8.toNat c4) : Int)] ∧ AV.bool (decide (Lib.indexByte s3 c4 ≥ 0)) = v))) (ifP (decide (c ≥ 48)) (ifP (decide (c ≤ 57)) (AV.bool true = v) (∃ (s5 : List UInt8), ∃ (c6 : UInt8), [AV.str [33, 35, 36, 37, 38, 39, 42, 43, 45, 46, 94, 95, 96, 124, 126], AV.int IntKind.u8 c] = [AV.str s5, AV.int IntKind.u8 (↑(UInt8.toNat c6) : Int)] ∧ AV.bool (decide (Lib.indexByte s5 c6 ≥ 0)) = v)) (∃ (s7 : List UInt8), ∃ (c8 : UInt8), [AV.str [33, 35, 36, 37, 38, 39, 42, 43, 45, 46, 94, 95, 96, 124, 126], AV.int IntKind.u8 c] = [AV.str s7, AV.int IntKind.u8 (↑(UInt8.toNat c8) : Int)] ∧ AV.bool (decide (Lib.indexByte s7 c8 ≥ 0)) = v)))) (ifP (decide (c ≥ 65)) (ifP (decide (c ≤ 90)) (AV.bool true = v) (ifP (decide (c ≥ 48)) (ifP (decide (c ≤ 57)) (AV.bool true = v) (∃ (s9 : List UInt8), ∃ (c10 : UInt8), [AV.str [33, 35, 36, 37, 38, 39, 42, 43, 45, 46, 94, 95, 96, 124, 126], AV.int IntKind.u8 c] = [AV.str s9, AV.int IntKind.u8 (↑(UInt8.toNat c10) : Int)] ∧ AV.bool (decide (Lib.indexByte s9 c10 ≥ 0)) = v)) (∃ (s11 : List UInt8), ∃ (c12 : UInt8), [AV.str [33, 35, 36, 37, 38, 39, 42, 43, 45, 46, 94, 95, 96, 124, 126], AV.int IntKind.u8 c] = [AV.str s11, AV.int IntKind.u8 (↑(UInt8.toNat c12) : Int)] ∧ AV.bool (decide (Lib.indexByte s11 c12 ≥ 0)) = v))) (ifP (decide (c ≥ 48)) (ifP (decide (c ≤ 57)) (AV.bool true = v) (∃ (s13 : List UInt8), ∃ (c14 : UInt8), [AV.str [33, 35, 36, 37, 38, 39, 42, 43, 45, 46, 94, 95, 96, 124, 126], AV.int IntKind.u8 c] = [AV.str s13, AV.int IntKind.u8 (↑(UInt8.toNat c14) : Int)] ∧ AV.bool (decide (Lib.indexByte s13 c14 ≥ 0)) = v)) (∃ (s15 : List UInt8), ∃ (c16 : UInt8), [AV.str [33, 35, 36, 37, 38, 39, 42, 43, 45, 46, 94, 95, 96, 124, 126], AV.int IntKind.u8 c] = [AV.str s15, AV.int IntKind.u8 (↑(UInt8.toNat c16) : Int)] ∧ AV.bool (decide (Lib.indexByte s15 c16 ≥ 0)) = v)))) := by kernel_rfl
  exact unr_ok hT 100000 _ _ _ _ (e.mpr H)

theorem t134a {v : AV} {c : Int} {s : List UInt8} (hT : TabOk cfg (ctab [])) (H :
    ToEnd cfg 134 (bodyOf Tryd.f134) (RetIs Tryd.prog Tryd.f134 v) [Fm.code [0, 1, 0, 1], Fm.block 0, Fm.code [1, 1]] XT.normal [(0, true, AV.int IntKind.u8 c), (1, true, AV.str s), (5, true, AV.int IntKind.i64 0)] []) :
    ToEnd cfg 134 (bodyOf Tryd.f134) (RetIs Tryd.prog Tryd.f134 v) ([.code []]) .normal ([(0, true, .int .u8 c), (1, true, .str s)]) ([]) := by
  have e : unr cfg 134 (bodyOf Tryd.f134) (ctab []) ⟨[[0, 1, 0, 1]], []⟩ (RetIs Tryd.prog Tryd.f134 v) 100000 ([.code []]) .normal ([(0, true, .int .u8 c), (1, true, .str s)]) ([]) =
    (ToEnd cfg 134 (bodyOf Tryd.f134) (RetIs Tryd.prog Tryd.f134 v) [Fm.code [0, 1, 0, 1], Fm.block 0, Fm.code [1, 1]] XT.normal [(0, true, AV.int IntKind.u8 c), (1, true, AV.str s), (5, true, AV.int IntKind.i64 0)] []) := by kernel_rfl
  exact unr_ok hT 100000 _ _ _ _ (e.mpr H)

theorem t90a {v : AV} {s : List UInt8} (hT : TabOk cfg (ctab [(116, byteC wordB)])) (H :
    ToEnd cfg 90 (bodyOf Tryd.f90) (RetIs Tryd.prog Tryd.f90 v) [Fm.code [0, 1, 0, 1], Fm.block 0, Fm.code [1, 1]] XT.normal [(0, true, AV.str s), (5, true, AV.int IntKind.i64 (↑(List.length s) : Int)), (6, true, AV.int IntKind.i64 0)] []) :
    ToEnd cfg 90 (bodyOf Tryd.f90) (RetIs Tryd.prog Tryd.f90 v) ([.code []]) .normal ([(0, true, .str s)]) ([]) := by
  have e : unr cfg 90 (bodyOf Tryd.f90) (ctab [(116, byteC wordB)]) ⟨[[0, 1, 0, 1]], []⟩ (RetIs Tryd.prog Tryd.f90 v) 100000 ([.code []]) .normal ([(0, true, .str s)]) ([]) =
    (ToEnd cfg 90 (bodyOf Tryd.f90) (RetIs Tryd.prog Tryd.f90 v) [Fm.code [0, 1, 0, 1], Fm.block 0, Fm.code [1, 1]] XT.normal [(0, true, AV.str s), (5, true, AV.int IntKind.i64 (↑(List.length s) : Int)), (6, true, AV.int IntKind.i64 0)] []) := by kernel_rfl
  exact unr_ok hT 100000 _ _ _ _ (e.mpr H)

theorem t117a {v : AV} {s : List UInt8} (hT : TabOk cfg (ctab [(133, byteC letterB), (134, inC)])) (H :
    ToEnd cfg 117 (bodyOf Tryd.f117) (RetIs Tryd.prog Tryd.f117 v) [Fm.code [0, 1, 0, 1], Fm.block 0, Fm.code [1, 1]] XT.normal [(0, true, AV.str s), (3, true, AV.int IntKind.i64 0)] []) :
    ToEnd cfg 117 (bodyOf Tryd.f117) (RetIs Tryd.prog Tryd.f117 v) ([.code []]) .normal ([(0, true, .str s)]) ([]) := by
  have e : unr cfg 117 (bodyOf Tryd.f117) (ctab [(133, byteC letterB), (134, inC)]) ⟨[[0, 1, 0, 1]], []⟩ (RetIs Tryd.prog Tryd.f117 v) 100000 ([.code []]) .normal ([(0, true, .str s)]) ([]) =
    (ToEnd cfg 117 (bodyOf Tryd.f117) (RetIs Tryd.prog Tryd.f117 v) [Fm.code [0, 1, 0, 1], Fm.block 0, Fm.code [1, 1]] XT.normal [(0, true, AV.str s), (3, true, AV.int IntKind.i64 0)] []) := by kernel_rfl
  exact unr_ok hT 100000 _ _ _ _ (e.mpr H)

theorem t134b {v : AV}   {i0 : Int} {s1 : List UInt8} {i5 : Int} (hT : TabOk cfg (ctab [])) (H :
    ifP (decide (i5 < (↑(List.length s1) : Int))) (gAnd (inR i5 (List.length s1)) (ifP ((↑(UInt8.toNat (List.getD s1 (Int.toNat i5) 0)) : Int) == i0) (AV.bool true = v) (ToEnd cfg 134 (bodyOf Tryd.f134) (RetIs Tryd.prog Tryd.f134 v) [Fm.code [0, 1, 0, 1], Fm.block 0, Fm.code [1, 1]] XT.normal [(0, true, AV.int IntKind.u8 i0), (1, true, AV.str s1), (5, true, AV.int IntKind.i64 (IntKind.wrap IntKind.i64 (i5 + 1)))] []))) (AV.bool false = v)) :
    ToEnd cfg 134 (bodyOf Tryd.f134) (RetIs Tryd.prog Tryd.f134 v) ([.code [0, 1, 0, 1], Fm.block 0, Fm.code [1, 1]]) .normal ([(0, true, AV.int IntKind.u8 i0), (1, true, AV.str s1), (5, true, AV.int IntKind.i64 i5)]) ([]) := by
  have e : unr cfg 134 (bodyOf Tryd.f134) (ctab []) ⟨[[0, 1, 0, 1]], []⟩ (RetIs Tryd.prog Tryd.f134 v) 100000 ([.code [0, 0, 1, 0, 1], .loop [0, 1, 0, 1] 0, Fm.block 0, Fm.code [1, 1]]) .normal ([(0, true, AV.int IntKind.u8 i0), (1, true, AV.str s1), (5, true, AV.int IntKind.i64 i5)]) ([]) =
    (ifP (decide (i5 < (↑(List.length s1) : Int))) (gAnd (inR i5 (List.length s1)) (ifP ((↑(UInt8.toNat (List.getD s1 (Int.toNat i5) 0)) : Int) == i0) (AV.bool true = v) (ToEnd cfg 134 (bodyOf Tryd.f134) (RetIs Tryd.prog Tryd.f134 v) [Fm.code [0, 1, 0, 1], Fm.block 0, Fm.code [1, 1]] XT.normal [(0, true, AV.int IntKind.u8 i0), (1, true, AV.str s1), (5, true, AV.int IntKind.i64 (IntKind.wrap IntKind.i64 (i5 + 1)))] []))) (AV.bool false = v)) := by kernel_rfl
  exact ends_round hT 100000 (by kernel_rfl) (e.mpr H)

theorem t90b {v : AV}  {s0 : List UInt8} {i5 : Int} {i6 : Int} (hT : TabOk cfg (ctab [(116, byteC wordB)])) (H :
    ifP (decide (i6 < i5)) (gAnd (inR i6 (List.length s0)) (∃ (c1 : UInt8), [AV.int IntKind.u8 (↑(UInt8.toNat (List.getD s0 (Int.toNat i6) 0)) : Int)] = [AV.int IntKind.u8 (↑(UInt8.toNat c1) : Int)] ∧ ifP (!wordB c1) (AV.bool false = v) (ToEnd cfg 90 (bodyOf Tryd.f90) (RetIs Tryd.prog Tryd.f90 v) [Fm.code [0, 1, 0, 1], Fm.block 0, Fm.code [1, 1]] XT.normal [(0, true, AV.str s0), (5, true, AV.int IntKind.i64 i5), (6, true, AV.int IntKind.i64 (IntKind.wrap IntKind.i64 (i6 + 1)))] []))) ((AV.bool !s0 == []) = v)) :
    ToEnd cfg 90 (bodyOf Tryd.f90) (RetIs Tryd.prog Tryd.f90 v) ([.code [0, 1, 0, 1], Fm.block 0, Fm.code [1, 1]]) .normal ([(0, true, AV.str s0), (5, true, AV.int IntKind.i64 i5), (6, true, AV.int IntKind.i64 i6)]) ([]) := by
  have e : unr cfg 90 (bodyOf Tryd.f90) (ctab [(116, byteC wordB)]) ⟨[[0, 1, 0, 1]], []⟩ (RetIs Tryd.prog Tryd.f90 v) 100000 ([.code [0, 0, 1, 0, 1], .loop [0, 1, 0, 1] 0, Fm.block 0, Fm.code [1, 1]]) .normal ([(0, true, AV.str s0), (5, true, AV.int IntKind.i64 i5), (6, true, AV.int IntKind.i64 i6)]) ([]) =
    (ifP (decide (i6 < i5)) (gAnd (inR i6 (List.length s0)) (∃ (c1 : UInt8), [AV.int IntKind.u8 (↑(UInt8.toNat (List.getD s0 (Int.toNat i6) 0)) : Int)] = [AV.int IntKind.u8 (↑(UInt8.toNat c1) : Int)] ∧ ifP (!wordB c1) (AV.bool false = v) (ToEnd cfg 90 (bodyOf Tryd.f90) (RetIs Tryd.prog Tryd.f90 v) [Fm.code [0, 1, 0, 1], Fm.block 0, Fm.code [1, 1]] XT.normal [(0, true, AV.str s0), (5, true, AV.int IntKind.i64 i5), (6, true, AV.int IntKind.i64 (IntKind.wrap IntKind.i64 (i6 + 1)))] []))) ((AV.bool !s0 == []) = v)) := by kernel_rfl
  exact ends_round hT 100000 (by kernel_rfl) (e.mpr H)

theorem t117b {v : AV}  {s0 : List UInt8} {i3 : Int} (hT : TabOk cfg (ctab [(133, byteC letterB), (134, inC)])) (H :
    ifP (decide (i3 < (↑(List.length s0) : Int))) (gAnd (inR i3 (List.length s0)) (∃ (c1 : UInt8), [AV.int IntKind.u8 (↑(UInt8.toNat (List.getD s0 (Int.toNat i3) 0)) : Int)] = [AV.int IntKind.u8 (↑(UInt8.toNat c1) : Int)] ∧ ifP (!letterB c1) (gAnd (inR i3 (List.length s0)) (∃ (c2 : UInt8), ∃ (s3 : List UInt8), List.length s3 ≤ 100000 ∧ [AV.int IntKind.u8 (↑(UInt8.toNat (List.getD s0 (Int.toNat i3) 0)) : Int), AV.str [33, 35, 36, 37, 38, 39, 42, 43, 45, 46, 94, 95, 96, 124, 126]] = [AV.int IntKind.u8 (↑(UInt8.toNat c2) : Int), AV.str s3] ∧ ifP (!List.contains s3 c2) (AV.bool false = v) (ToEnd cfg 117 (bodyOf Tryd.f117) (RetIs Tryd.prog Tryd.f117 v) [Fm.code [0, 1, 0, 1], Fm.block 0, Fm.code [1, 1]] XT.normal [(0, true, AV.str s0), (3, true, AV.int IntKind.i64 (IntKind.wrap IntKind.i64 (i3 + 1)))] []))) (ToEnd cfg 117 (bodyOf Tryd.f117) (RetIs Tryd.prog Tryd.f117 v) [Fm.code [0, 1, 0, 1], Fm.block 0, Fm.code [1, 1]] XT.normal [(0, true, AV.str s0), (3, true, AV.int IntKind.i64 (IntKind.wrap IntKind.i64 (i3 + 1)))] []))) (AV.bool (decide ((↑(List.length s0) : Int) > 0)) = v)) :
    ToEnd cfg 117 (bodyOf Tryd.f117) (RetIs Tryd.prog Tryd.f117 v) ([.code [0, 1, 0, 1], Fm.block 0, Fm.code [1, 1]]) .normal ([(0, true, AV.str s0), (3, true, AV.int IntKind.i64 i3)]) ([]) := by
  have e : unr cfg 117 (bodyOf Tryd.f117) (ctab [(133, byteC letterB), (134, inC)]) ⟨[[0, 1, 0, 1]], []⟩ (RetIs Tryd.prog Tryd.f117 v) 100000 ([.code [0, 0, 1, 0, 1], .loop [0, 1, 0, 1] 0, Fm.block 0, Fm.code [1, 1]]) .normal ([(0, true, AV.str s0), (3, true, AV.int IntKind.i64 i3)]) ([]) =
    (ifP (decide (i3 < (↑(List.length s0) : Int))) (gAnd (inR i3 (List.length s0)) (∃ (c1 : UInt8), [AV.int IntKind.u8 (↑(UInt8.toNat (List.getD s0 (Int.toNat i3) 0)) : Int)] = [AV.int IntKind.u8 (↑(UInt8.toNat c1) : Int)] ∧ ifP (!letterB c1) (gAnd (inR i3 (List.length s0)) (∃ (c2 : UInt8), ∃ (s3 : List UInt8), List.length s3 ≤ 100000 ∧ [AV.int IntKind.u8 (↑(UInt8.toNat (List.getD s0 (Int.toNat i3) 0)) : Int), AV.str [33, 35, 36, 37, 38, 39, 42, 43, 45, 46, 94, 95, 96, 124, 126]] = [AV.int IntKind.u8 (↑(UInt8.toNat c2) : Int), AV.str s3] ∧ ifP (!List.contains s3 c2) (AV.bool false = v) (ToEnd cfg 117 (bodyOf Tryd.f117) (RetIs Tryd.prog Tryd.f117 v) [Fm.code [0, 1, 0, 1], Fm.block 0, Fm.code [1, 1]] XT.normal [(0, true, AV.str s0), (3, true, AV.int IntKind.i64 (IntKind.wrap IntKind.i64 (i3 + 1)))] []))) (ToEnd cfg 117 (bodyOf Tryd.f117) (RetIs Tryd.prog Tryd.f117 v) [Fm.code [0, 1, 0, 1], Fm.block 0, Fm.code [1, 1]] XT.normal [(0, true, AV.str s0), (3, true, AV.int IntKind.i64 (IntKind.wrap IntKind.i64 (i3 + 1)))] []))) (AV.bool (decide ((↑(List.length s0) : Int) > 0)) = v)) := by kernel_rfl
  exact ends_round hT 100000 (by kernel_rfl) (e.mpr H)

theorem t61 {v : AV} {s x : List UInt8} (hT : TabOk cfg (ctab [])) (H :
    ifP (decide ((↑(List.length s) : Int) ≥ (↑(List.length x) : Int))) (gAnd (cutOb (List.length s) none (some (↑(List.length x) : Int))) (AV.bool (cutL s none (some (↑(List.length x) : Int)) == x) = v)) (AV.bool false = v)) :
    ToEnd cfg 61 (bodyOf Tryd.f61) (RetIs Tryd.prog Tryd.f61 v) ([.code []]) .normal ([(0, true, .str s), (1, true, .str x)]) ([]) := by
  have e : unr cfg 61 (bodyOf Tryd.f61) (ctab []) ⟨[], []⟩ (RetIs Tryd.prog Tryd.f61 v) 100000 ([.code []]) .normal ([(0, true, .str s), (1, true, .str x)]) ([]) =
    (ifP (decide ((↑(List.length s) : Int) ≥ (↑(List.length x) : Int))) (gAnd (cutOb (List.length s) none (some (↑(List.length x) : Int))) (AV.bool (cutL s none (some (↑(List.length x) : Int)) == x) = v)) (AV.bool false = v)) := by kernel_rfl
  exact unr_ok hT 100000 _ _ _ _ (e.mpr H)

theorem t37 {v : AV} {s x : List UInt8} (hT : TabOk cfg (ctab [(61, prefC)])) (H :
    ∃ (s1 : List UInt8), ∃ (x2 : List UInt8), [AV.str s, AV.str x] = [AV.str s1, AV.str x2] ∧ AV.bool (List.isPrefixOf x2 s1) = v) :
    ToEnd cfg 37 (bodyOf Tryd.f37) (RetIs Tryd.prog Tryd.f37 v) ([.code []]) .normal ([(0, true, .str s), (1, true, .str x)]) ([]) := by
  have e : unr cfg 37 (bodyOf Tryd.f37) (ctab [(61, prefC)]) ⟨[], []⟩ (RetIs Tryd.prog Tryd.f37 v) 100000 ([.code []]) .normal ([(0, true, .str s), (1, true, .str x)]) ([]) =
    (∃ (s1 : List UInt8), ∃ (x2 : List UInt8), [AV.str s, AV.str x] = [AV.str s1, AV.str x2] ∧ AV.bool (List.isPrefixOf x2 s1) = v) := by kernel_rfl
  exact unr_ok hT 100000 _ _ _ _ (e.mpr H)

theorem t42 {v : AV} {s en : List UInt8} {n : Int} (hT : TabOk cfg (ctab [(64, ixSC)])) (H :
    gAnd (cutOb (List.length s) none (some (min (↑(List.length s) : Int) n))) (∃ (s1 : List UInt8), ∃ (x2 : List UInt8), List.length s1 ≤ 10000000 ∧ [AV.str (cutL s none (some (min (↑(List.length s) : Int) n))), AV.str en] = [AV.str s1, AV.str x2] ∧ ifP (decide (idxB s1 x2 0 ≥ 0)) (gAnd (cutOb (List.length s) none (some (idxB s1 x2 0))) (AV.tup [AV.str (cutL s none (some (idxB s1 x2 0))), AV.int IntKind.i64 (IntKind.wrap IntKind.i64 (idxB s1 x2 0 + (↑(List.length en) : Int))), AV.int IntKind.i64 0] = v)) (ifP (decide ((↑(List.length s) : Int) ≥ n)) (AV.tup [AV.str [], AV.int IntKind.i64 0, AV.int IntKind.i64 3] = v) (AV.tup [AV.str [], AV.int IntKind.i64 0, AV.int IntKind.i64 6] = v)))) :
    ToEnd cfg 42 (bodyOf Tryd.f42) (RetIs Tryd.prog Tryd.f42 v) ([.code []]) .normal ([(0, true, .str s), (1, true, .str en), (2, true, .int .i64 n)]) ([]) := by
  have e : unr cfg 42 (bodyOf Tryd.f42) (ctab [(64, ixSC)]) ⟨[], []⟩ (RetIs Tryd.prog Tryd.f42 v) 100000 ([.code []]) .normal ([(0, true, .str s), (1, true, .str en), (2, true, .int .i64 n)]) ([]) =
    (gAnd (cutOb (List.length s) none (some (min (↑(List.length s) : Int) n))) (∃ (s1 : List UInt8), ∃ (x2 : List UInt8), List.length s1 ≤ 10000000 ∧ [AV.str (cutL s none (some (min (↑(List.length s) : Int) n))), AV.str en] = [AV.str s1, AV.str x2] ∧ ifP (decide (idxB s1 x2 0 ≥ 0)) (gAnd (cutOb (List.length s) none (some (idxB s1 x2 0))) (AV.tup [AV.str (cutL s none (some (idxB s1 x2 0))), AV.int IntKind.i64 (IntKind.wrap IntKind.i64 (idxB s1 x2 0 + (↑(List.length en) : Int))), AV.int IntKind.i64 0] = v)) (ifP (decide ((↑(List.length s) : Int) ≥ n)) (AV.tup [AV.str [], AV.int IntKind.i64 0, AV.int IntKind.i64 3] = v) (AV.tup [AV.str [], AV.int IntKind.i64 0, AV.int IntKind.i64 6] = v)))) := by kernel_rfl
  exact unr_ok hT 100000 _ _ _ _ (e.mpr H)

theorem t91a {v : AV} {s : List UInt8} (hT : TabOk cfg (ctab [(68, trimC)])) (H :
    ToEnd cfg 91 (bodyOf Tryd.f91) (RetIs Tryd.prog Tryd.f91 v) [Fm.code [0, 1, 0, 1], Fm.block 0, Fm.code [1, 1]] XT.normal [(0, true, AV.str s), (6, true, AV.int IntKind.i64 (↑(List.length s) : Int)), (7, true, AV.int IntKind.i64 0)] []) :
    ToEnd cfg 91 (bodyOf Tryd.f91) (RetIs Tryd.prog Tryd.f91 v) ([.code []]) .normal ([(0, true, .str s)]) ([]) := by
  have e : unr cfg 91 (bodyOf Tryd.f91) (ctab [(68, trimC)]) ⟨[[0, 1, 0, 1]], []⟩ (RetIs Tryd.prog Tryd.f91 v) 100000 ([.code []]) .normal ([(0, true, .str s)]) ([]) =
    (ToEnd cfg 91 (bodyOf Tryd.f91) (RetIs Tryd.prog Tryd.f91 v) [Fm.code [0, 1, 0, 1], Fm.block 0, Fm.code [1, 1]] XT.normal [(0, true, AV.str s), (6, true, AV.int IntKind.i64 (↑(List.length s) : Int)), (7, true, AV.int IntKind.i64 0)] []) := by kernel_rfl
  exact unr_ok hT 100000 _ _ _ _ (e.mpr H)

theorem t91b {v : AV}  {s0 : List UInt8} {i6 : Int} {i7 : Int} (hT : TabOk cfg (ctab [(68, trimC)])) (H :
    ifP (decide (i7 < i6)) (gAnd (inR i7 (List.length s0)) (ifP (decide ((↑(UInt8.toNat (List.getD s0 (Int.toNat i7) 0)) : Int) < 32)) (ifP ((↑(UInt8.toNat (List.getD s0 (Int.toNat i7) 0)) : Int) != 9) (AV.bool false = v) (ifP ((↑(UInt8.toNat (List.getD s0 (Int.toNat i7) 0)) : Int) == 127) (AV.bool false = v) (ToEnd cfg 91 (bodyOf Tryd.f91) (RetIs Tryd.prog Tryd.f91 v) [Fm.code [0, 1, 0, 1], Fm.block 0, Fm.code [1, 1]] XT.normal [(0, true, AV.str s0), (6, true, AV.int IntKind.i64 i6), (7, true, AV.int IntKind.i64 (IntKind.wrap IntKind.i64 (i7 + 1)))] []))) (ifP ((↑(UInt8.toNat (List.getD s0 (Int.toNat i7) 0)) : Int) == 127) (AV.bool false = v) (ToEnd cfg 91 (bodyOf Tryd.f91) (RetIs Tryd.prog Tryd.f91 v) [Fm.code [0, 1, 0, 1], Fm.block 0, Fm.code [1, 1]] XT.normal [(0, true, AV.str s0), (6, true, AV.int IntKind.i64 i6), (7, true, AV.int IntKind.i64 (IntKind.wrap IntKind.i64 (i7 + 1)))] [])))) (∃ (s1 : List UInt8), List.length s1 ≤ 10000000 ∧ [AV.str s0] = [AV.str s1] ∧ AV.bool (trB s1 == s0) = v)) :
    ToEnd cfg 91 (bodyOf Tryd.f91) (RetIs Tryd.prog Tryd.f91 v) ([.code [0, 1, 0, 1], Fm.block 0, Fm.code [1, 1]]) .normal ([(0, true, AV.str s0), (6, true, AV.int IntKind.i64 i6), (7, true, AV.int IntKind.i64 i7)]) ([]) := by
  have e : unr cfg 91 (bodyOf Tryd.f91) (ctab [(68, trimC)]) ⟨[[0, 1, 0, 1]], []⟩ (RetIs Tryd.prog Tryd.f91 v) 100000 ([.code [0, 0, 1, 0, 1], .loop [0, 1, 0, 1] 0, Fm.block 0, Fm.code [1, 1]]) .normal ([(0, true, AV.str s0), (6, true, AV.int IntKind.i64 i6), (7, true, AV.int IntKind.i64 i7)]) ([]) =
    (ifP (decide (i7 < i6)) (gAnd (inR i7 (List.length s0)) (ifP (decide ((↑(UInt8.toNat (List.getD s0 (Int.toNat i7) 0)) : Int) < 32)) (ifP ((↑(UInt8.toNat (List.getD s0 (Int.toNat i7) 0)) : Int) != 9) (AV.bool false = v) (ifP ((↑(UInt8.toNat (List.getD s0 (Int.toNat i7) 0)) : Int) == 127) (AV.bool false = v) (ToEnd cfg 91 (bodyOf Tryd.f91) (RetIs Tryd.prog Tryd.f91 v) [Fm.code [0, 1, 0, 1], Fm.block 0, Fm.code [1, 1]] XT.normal [(0, true, AV.str s0), (6, true, AV.int IntKind.i64 i6), (7, true, AV.int IntKind.i64 (IntKind.wrap IntKind.i64 (i7 + 1)))] []))) (ifP ((↑(UInt8.toNat (List.getD s0 (Int.toNat i7) 0)) : Int) == 127) (AV.bool false = v) (ToEnd cfg 91 (bodyOf Tryd.f91) (RetIs Tryd.prog Tryd.f91 v) [Fm.code [0, 1, 0, 1], Fm.block 0, Fm.code [1, 1]] XT.normal [(0, true, AV.str s0), (6, true, AV.int IntKind.i64 i6), (7, true, AV.int IntKind.i64 (IntKind.wrap IntKind.i64 (i7 + 1)))] [])))) (∃ (s1 : List UInt8), List.length s1 ≤ 10000000 ∧ [AV.str s0] = [AV.str s1] ∧ AV.bool (trB s1 == s0) = v)) := by kernel_rfl
  exact ends_round hT 100000 (by kernel_rfl) (e.mpr H)

theorem t69 {v : AV} {a b : List UInt8} (hT : TabOk cfg (ctab [(90, strC tokenB), (91, strC valS)])) (H :
    ∃ (s1 : List UInt8), List.length s1 ≤ 100000 ∧ [AV.str a] = [AV.str s1] ∧ ifP (tokenB s1) (∃ (s2 : List UInt8), List.length s2 ≤ 100000 ∧ [AV.str b] = [AV.str s2] ∧ AV.bool (valS s2) = v) (AV.bool false = v)) :
    ToEnd cfg 69 (bodyOf Tryd.f69) (RetIs Tryd.prog Tryd.f69 v) ([.code []]) .normal ([(0, true, .agg [.str a, .str b])]) ([]) := by
  have e : unr cfg 69 (bodyOf Tryd.f69) (ctab [(90, strC tokenB), (91, strC valS)]) ⟨[], []⟩ (RetIs Tryd.prog Tryd.f69 v) 100000 ([.code []]) .normal ([(0, true, .agg [.str a, .str b])]) ([]) =
    (∃ (s1 : List UInt8), List.length s1 ≤ 100000 ∧ [AV.str a] = [AV.str s1] ∧ ifP (tokenB s1) (∃ (s2 : List UInt8), List.length s2 ≤ 100000 ∧ [AV.str b] = [AV.str s2] ∧ AV.bool (valS s2) = v) (AV.bool false = v)) := by kernel_rfl
  exact unr_ok hT 100000 _ _ _ _ (e.mpr H)

theorem t70 {v : AV} {a b : List UInt8} (hT : TabOk cfg (ctab [])) (H :
    gAnd (decide (List.length a + 2 ≤ 9223372036854775807)) (gAnd (decide (List.length (a ++ [58, 32]) + List.length b ≤ 9223372036854775807)) (AV.str (a ++ [58, 32] ++ b) = v))) :
    ToEnd cfg 70 (bodyOf Tryd.f70) (RetIs Tryd.prog Tryd.f70 v) ([.code []]) .normal ([(0, true, .agg [.str a, .str b])]) ([]) := by
  have e : unr cfg 70 (bodyOf Tryd.f70) (ctab []) ⟨[], []⟩ (RetIs Tryd.prog Tryd.f70 v) 100000 ([.code []]) .normal ([(0, true, .agg [.str a, .str b])]) ([]) =
    (gAnd (decide (List.length a + 2 ≤ 9223372036854775807)) (gAnd (decide (List.length (a ++ [58, 32]) + List.length b ≤ 9223372036854775807)) (AV.str (a ++ [58, 32] ++ b) = v))) := by kernel_rfl
  exact unr_ok hT 100000 _ _ _ _ (e.mpr H)

theorem t93a {v : AV} {a b : List UInt8} (hT : TabOk cfg (ctab [(117, strC tokenB)])) (H :
    ToEnd cfg 93 (bodyOf Tryd.f93) (RetIs Tryd.prog Tryd.f93 v) [Fm.code [0, 1, 0, 1, 1], Fm.block 0, Fm.code [1, 1, 1]] XT.normal [(1, true, AV.ptr 0 0), (3, true, AV.str b), (4, true, AV.int IntKind.i64 0)] [Blk.mem 38 [AV.str a, AV.str b]]) :
    ToEnd cfg 93 (bodyOf Tryd.f93) (RetIs Tryd.prog Tryd.f93 v) ([.code []]) .normal ([(0, true, .agg [.str a, .str b])]) ([]) := by
  have e : unr cfg 93 (bodyOf Tryd.f93) (ctab [(117, strC tokenB)]) ⟨[[0, 1, 0, 1, 1]], []⟩ (RetIs Tryd.prog Tryd.f93 v) 100000 ([.code []]) .normal ([(0, true, .agg [.str a, .str b])]) ([]) =
    (ToEnd cfg 93 (bodyOf Tryd.f93) (RetIs Tryd.prog Tryd.f93 v) [Fm.code [0, 1, 0, 1, 1], Fm.block 0, Fm.code [1, 1, 1]] XT.normal [(1, true, AV.ptr 0 0), (3, true, AV.str b), (4, true, AV.int IntKind.i64 0)] [Blk.mem 38 [AV.str a, AV.str b]]) := by kernel_rfl
  exact unr_ok hT 100000 _ _ _ _ (e.mpr H)

theorem t93b {v : AV} {a b : List UInt8} {s3 : List UInt8} {i4 : Int} (hT : TabOk cfg (ctab [(117, strC tokenB)])) (H :
    ifP (decide (i4 < (↑(List.length s3) : Int))) (gAnd (inR i4 (List.length s3)) (ifP ((↑(UInt8.toNat (List.getD s3 (Int.toNat i4) 0)) : Int) == 127) (AV.bool false = v) (gAnd (inR i4 (List.length s3)) (ifP (decide ((↑(UInt8.toNat (List.getD s3 (Int.toNat i4) 0)) : Int) < 32)) (gAnd (inR i4 (List.length s3)) (ifP ((↑(UInt8.toNat (List.getD s3 (Int.toNat i4) 0)) : Int) != 9) (AV.bool false = v) (ifP (i4 == 0) (gAnd (inR i4 (List.length s3)) (ifP ((↑(UInt8.toNat (List.getD s3 (Int.toNat i4) 0)) : Int) == 32) (AV.bool false = v) (gAnd (inR i4 (List.length s3)) (ifP ((↑(UInt8.toNat (List.getD s3 (Int.toNat i4) 0)) : Int) == 9) (AV.bool false = v) (ToEnd cfg 93 (bodyOf Tryd.f93) (RetIs Tryd.prog Tryd.f93 v) [Fm.code [0, 1, 0, 1, 1], Fm.block 0, Fm.code [1, 1, 1]] XT.normal [(1, true, AV.ptr 0 0), (3, true, AV.str s3), (4, true, AV.int IntKind.i64 (IntKind.wrap IntKind.i64 (i4 + 1)))] [Blk.mem 38 [AV.str a, AV.str b]]))))) (ifP (i4 == IntKind.wrap IntKind.i64 ((↑(List.length s3) : Int) - 1)) (gAnd (inR i4 (List.length s3)) (ifP ((↑(UInt8.toNat (List.getD s3 (Int.toNat i4) 0)) : Int) == 32) (AV.bool false = v) (gAnd (inR i4 (List.length s3)) (ifP ((↑(UInt8.toNat (List.getD s3 (Int.toNat i4) 0)) : Int) == 9) (AV.bool false = v) (ToEnd cfg 93 (bodyOf Tryd.f93) (RetIs Tryd.prog Tryd.f93 v) [Fm.code [0, 1, 0, 1, 1], Fm.block 0, Fm.code [1, 1, 1]] XT.normal [(1, true, AV.ptr 0 0), (3, true, AV.str s3), (4, true, AV.int IntKind.i64 (IntKind.wrap IntKind.i64 (i4 + 1)))] [Blk.mem 38 [AV.str a, AV.str b]]))))) (ToEnd cfg 93 (bodyOf Tryd.f93) (RetIs Tryd.prog Tryd.f93 v) [Fm.code [0, 1, 0, 1, 1], Fm.block 0, Fm.code [1, 1, 1]] XT.normal [(1, true, AV.ptr 0 0), (3, true, AV.str s3), (4, true, AV.int IntKind.i64 (IntKind.wrap IntKind.i64 (i4 + 1)))] [Blk.mem 38 [AV.str a, AV.str b]]))))) (ifP (i4 == 0) (gAnd (inR i4 (List.length s3)) (ifP ((↑(UInt8.toNat (List.getD s3 (Int.toNat i4) 0)) : Int) == 32) (AV.bool false = v) (gAnd (inR i4 (List.length s3)) (ifP ((↑(UInt8.toNat (List.getD s3 (Int.toNat i4) 0)) : Int) == 9) (AV.bool false = v) (ToEnd cfg 93 (bodyOf Tryd.f93) (RetIs Tryd.prog Tryd.f93 v) [Fm.code [0, 1, 0, 1, 1], Fm.block 0, Fm.code [1, 1, 1]] XT.normal [(1, true, AV.ptr 0 0), (3, true, AV.str s3), (4, true, AV.int IntKind.i64 (IntKind.wrap IntKind.i64 (i4 + 1)))] [Blk.mem 38 [AV.str a, AV.str b]]))))) (ifP (i4 == IntKind.wrap IntKind.i64 ((↑(List.length s3) : Int) - 1)) (gAnd (inR i4 (List.length s3)) (ifP ((↑(UInt8.toNat (List.getD s3 (Int.toNat i4) 0)) : Int) == 32) (AV.bool false = v) (gAnd (inR i4 (List.length s3)) (ifP ((↑(UInt8.toNat (List.getD s3 (Int.toNat i4) 0)) : Int) == 9) (AV.bool false = v) (ToEnd cfg 93 (bodyOf Tryd.f93) (RetIs Tryd.prog Tryd.f93 v) [Fm.code [0, 1, 0, 1, 1], Fm.block 0, Fm.code [1, 1, 1]] XT.normal [(1, true, AV.ptr 0 0), (3, true, AV.str s3), (4, true, AV.int IntKind.i64 (IntKind.wrap IntKind.i64 (i4 + 1)))] [Blk.mem 38 [AV.str a, AV.str b]]))))) (ToEnd cfg 93 (bodyOf Tryd.f93) (RetIs Tryd.prog Tryd.f93 v) [Fm.code [0, 1, 0, 1, 1], Fm.block 0, Fm.code [1, 1, 1]] XT.normal [(1, true, AV.ptr 0 0), (3, true, AV.str s3), (4, true, AV.int IntKind.i64 (IntKind.wrap IntKind.i64 (i4 + 1)))] [Blk.mem 38 [AV.str a, AV.str b]]))))))) (∃ (s1 : List UInt8), List.length s1 ≤ 100000 ∧ [AV.str a] = [AV.str s1] ∧ AV.bool (tokenB s1) = v)) :
    ToEnd cfg 93 (bodyOf Tryd.f93) (RetIs Tryd.prog Tryd.f93 v) ([.code [0, 1, 0, 1, 1], Fm.block 0, Fm.code [1, 1, 1]]) .normal ([(1, true, AV.ptr 0 0), (3, true, AV.str s3), (4, true, AV.int IntKind.i64 i4)]) ([Blk.mem 38 [AV.str a, AV.str b]]) := by
  have e : unr cfg 93 (bodyOf Tryd.f93) (ctab [(117, strC tokenB)]) ⟨[[0, 1, 0, 1, 1]], []⟩ (RetIs Tryd.prog Tryd.f93 v) 100000 ([.code [0, 0, 1, 0, 1, 1], .loop [0, 1, 0, 1, 1] 1, Fm.block 0, Fm.code [1, 1, 1]]) .normal ([(1, true, AV.ptr 0 0), (3, true, AV.str s3), (4, true, AV.int IntKind.i64 i4)]) ([Blk.mem 38 [AV.str a, AV.str b]]) =
    (ifP (decide (i4 < (↑(List.length s3) : Int))) (gAnd (inR i4 (List.length s3)) (ifP ((↑(UInt8.toNat (List.getD s3 (Int.toNat i4) 0)) : Int) == 127) (AV.bool false = v) (gAnd (inR i4 (List.length s3)) (ifP (decide ((↑(UInt8.toNat (List.getD s3 (Int.toNat i4) 0)) : Int) < 32)) (gAnd (inR i4 (List.length s3)) (ifP ((↑(UInt8.toNat (List.getD s3 (Int.toNat i4) 0)) : Int) != 9) (AV.bool false = v) (ifP (i4 == 0) (gAnd (inR i4 (List.length s3)) (ifP ((↑(UInt8.toNat (List.getD s3 (Int.toNat i4) 0)) : Int) == 32) (AV.bool false = v) (gAnd (inR i4 (List.length s3)) (ifP ((↑(UInt8.toNat (List.getD s3 (Int.toNat i4) 0)) : Int) == 9) (AV.bool false = v) (ToEnd cfg 93 (bodyOf Tryd.f93) (RetIs Tryd.prog Tryd.f93 v) [Fm.code [0, 1, 0, 1, 1], Fm.block 0, Fm.code [1, 1, 1]] XT.normal [(1, true, AV.ptr 0 0), (3, true, AV.str s3), (4, true, AV.int IntKind.i64 (IntKind.wrap IntKind.i64 (i4 + 1)))] [Blk.mem 38 [AV.str a, AV.str b]]))))) (ifP (i4 == IntKind.wrap IntKind.i64 ((↑(List.length s3) : Int) - 1)) (gAnd (inR i4 (List.length s3)) (ifP ((↑(UInt8.toNat (List.getD s3 (Int.toNat i4) 0)) : Int) == 32) (AV.bool false = v) (gAnd (inR i4 (List.length s3)) (ifP ((↑(UInt8.toNat (List.getD s3 (Int.toNat i4) 0)) : Int) == 9) (AV.bool false = v) (ToEnd cfg 93 (bodyOf Tryd.f93) (RetIs Tryd.prog Tryd.f93 v) [Fm.code [0, 1, 0, 1, 1], Fm.block 0, Fm.code [1, 1, 1]] XT.normal [(1, true, AV.ptr 0 0), (3, true, AV.str s3), (4, true, AV.int IntKind.i64 (IntKind.wrap IntKind.i64 (i4 + 1)))] [Blk.mem 38 [AV.str a, AV.str b]]))))) (ToEnd cfg 93 (bodyOf Tryd.f93) (RetIs Tryd.prog Tryd.f93 v) [Fm.code [0, 1, 0, 1, 1], Fm.block 0, Fm.code [1, 1, 1]] XT.normal [(1, true, AV.ptr 0 0), (3, true, AV.str s3), (4, true, AV.int IntKind.i64 (IntKind.wrap IntKind.i64 (i4 + 1)))] [Blk.mem 38 [AV.str a, AV.str b]]))))) (ifP (i4 == 0) (gAnd (inR i4 (List.length s3)) (ifP ((↑(UInt8.toNat (List.getD s3 (Int.toNat i4) 0)) : Int) == 32) (AV.bool false = v) (gAnd (inR i4 (List.length s3)) (ifP ((↑(UInt8.toNat (List.getD s3 (Int.toNat i4) 0)) : Int) == 9) (AV.bool false = v) (ToEnd cfg 93 (bodyOf Tryd.f93) (RetIs Tryd.prog Tryd.f93 v) [Fm.code [0, 1, 0, 1, 1], Fm.block 0, Fm.code [1, 1, 1]] XT.normal [(1, true, AV.ptr 0 0), (3, true, AV.str s3), (4, true, AV.int IntKind.i64 (IntKind.wrap IntKind.i64 (i4 + 1)))] [Blk.mem 38 [AV.str a, AV.str b]]))))) (ifP (i4 == IntKind.wrap IntKind.i64 ((↑(List.length s3) : Int) - 1)) (gAnd (inR i4 (List.length s3)) (ifP ((↑(UInt8.toNat (List.getD s3 (Int.toNat i4) 0)) : Int) == 32) (AV.bool false = v) (gAnd (inR i4 (List.length s3)) (ifP ((↑(UInt8.toNat (List.getD s3 (Int.toNat i4) 0)) : Int) == 9) (AV.bool false = v) (ToEnd cfg 93 (bodyOf Tryd.f93) (RetIs Tryd.prog Tryd.f93 v) [Fm.code [0, 1, 0, 1, 1], Fm.block 0, Fm.code [1, 1, 1]] XT.normal [(1, true, AV.ptr 0 0), (3, true, AV.str s3), (4, true, AV.int IntKind.i64 (IntKind.wrap IntKind.i64 (i4 + 1)))] [Blk.mem 38 [AV.str a, AV.str b]]))))) (ToEnd cfg 93 (bodyOf Tryd.f93) (RetIs Tryd.prog Tryd.f93 v) [Fm.code [0, 1, 0, 1, 1], Fm.block 0, Fm.code [1, 1, 1]] XT.normal [(1, true, AV.ptr 0 0), (3, true, AV.str s3), (4, true, AV.int IntKind.i64 (IntKind.wrap IntKind.i64 (i4 + 1)))] [Blk.mem 38 [AV.str a, AV.str b]]))))))) (∃ (s1 : List UInt8), List.length s1 ≤ 100000 ∧ [AV.str a] = [AV.str s1] ∧ AV.bool (tokenB s1) = v)) := by kernel_rfl
  exact ends_round hT 100000 (by kernel_rfl) (e.mpr H)

theorem t94 {v : AV} {a b : List UInt8} (hT : TabOk cfg (ctab [])) (H :
    AV.bool (decide (IntKind.wrap IntKind.i64 (IntKind.wrap IntKind.i64 ((↑(List.length a) : Int) + 2) + (↑(List.length b) : Int)) > 2048)) = v) :
    ToEnd cfg 94 (bodyOf Tryd.f94) (RetIs Tryd.prog Tryd.f94 v) ([.code []]) .normal ([(0, true, .agg [.str a, .str b])]) ([]) := by
  have e : unr cfg 94 (bodyOf Tryd.f94) (ctab []) ⟨[], []⟩ (RetIs Tryd.prog Tryd.f94 v) 100000 ([.code []]) .normal ([(0, true, .agg [.str a, .str b])]) ([]) =
    (AV.bool (decide (IntKind.wrap IntKind.i64 (IntKind.wrap IntKind.i64 ((↑(List.length a) : Int) + 2) + (↑(List.length b) : Int)) > 2048)) = v) := by kernel_rfl
  exact unr_ok hT 100000 _ _ _ _ (e.mpr H)

theorem t72a {v : AV} {s : List UInt8} (hT : TabOk cfg (ctab [(92, trimC), (93, fldC mayF), (94, fldC longF)])) (H :
    ifP (decide ((↑(List.length s) : Int) > 2048)) (AV.tup [AV.agg [AV.str [], AV.str []], AV.int IntKind.i64 3] = v) (ToEnd cfg 72 (bodyOf Tryd.f72) (RetIs Tryd.prog Tryd.f72 v) [Fm.code [0, 0, 1, 1, 1], Fm.block 0, Fm.code [1, 1, 1, 1]] XT.normal [(0, true, AV.str s), (2, true, AV.ptr 0 0), (4, true, AV.int IntKind.i64 0)] [Blk.mem 38 [AV.str [], AV.str []]])) :
    ToEnd cfg 72 (bodyOf Tryd.f72) (RetIs Tryd.prog Tryd.f72 v) ([.code []]) .normal ([(0, true, .str s)]) ([]) := by
  have e : unr cfg 72 (bodyOf Tryd.f72) (ctab [(92, trimC), (93, fldC mayF), (94, fldC longF)]) ⟨[[0, 0, 1, 1, 1]], []⟩ (RetIs Tryd.prog Tryd.f72 v) 100000 ([.code []]) .normal ([(0, true, .str s)]) ([]) =
    (ifP (decide ((↑(List.length s) : Int) > 2048)) (AV.tup [AV.agg [AV.str [], AV.str []], AV.int IntKind.i64 3] = v) (ToEnd cfg 72 (bodyOf Tryd.f72) (RetIs Tryd.prog Tryd.f72 v) [Fm.code [0, 0, 1, 1, 1], Fm.block 0, Fm.code [1, 1, 1, 1]] XT.normal [(0, true, AV.str s), (2, true, AV.ptr 0 0), (4, true, AV.int IntKind.i64 0)] [Blk.mem 38 [AV.str [], AV.str []]])) := by kernel_rfl
  exact unr_ok hT 100000 _ _ _ _ (e.mpr H)

theorem t72b {v : AV}  {s0 : List UInt8} {i4 : Int} {sh0_0 : List UInt8} {sh0_1 : List UInt8} (hT : TabOk cfg (ctab [(92, trimC), (93, fldC mayF), (94, fldC longF)])) (H :
    ifP (decide (i4 < (↑(List.length s0) : Int))) (gAnd (inR i4 (List.length s0)) (ifP ((↑(UInt8.toNat (List.getD s0 (Int.toNat i4) 0)) : Int) != 58) (ToEnd cfg 72 (bodyOf Tryd.f72) (RetIs Tryd.prog Tryd.f72 v) [Fm.code [0, 0, 1, 1, 1], Fm.block 0, Fm.code [1, 1, 1, 1]] XT.normal [(0, true, AV.str s0), (2, true, AV.ptr 0 0), (4, true, AV.int IntKind.i64 (IntKind.wrap IntKind.i64 (i4 + 1)))] [Blk.mem 38 [AV.str sh0_0, AV.str sh0_1]]) (ifP (i4 == (↑(List.length s0) : Int)) (AV.tup [AV.agg [AV.str [], AV.str []], AV.int IntKind.i64 4] = v) (gAnd (cutOb (List.length s0) none (some i4)) (gAnd (cutOb (List.length s0) (some (IntKind.wrap IntKind.i64 (i4 + 1))) none) (∃ (s1 : List UInt8), List.length s1 ≤ 10000000 ∧ [AV.str (cutL s0 (some (IntKind.wrap IntKind.i64 (i4 + 1))) none)] = [AV.str s1] ∧ ∃ (a2 : List UInt8), ∃ (b3 : List UInt8), List.length a2 ≤ 100000 ∧ List.length b3 ≤ 100000 ∧ [AV.agg [AV.str (cutL s0 none (some i4)), AV.str (trB s1)]] = [AV.agg [AV.str a2, AV.str b3]] ∧ ifP (!mayF (Fld.mk a2 b3)) (AV.tup [AV.agg [AV.str [], AV.str []], AV.int IntKind.i64 4] = v) (∃ (a4 : List UInt8), ∃ (b5 : List UInt8), List.length a4 ≤ 100000 ∧ List.length b5 ≤ 100000 ∧ [AV.agg [AV.str (cutL s0 none (some i4)), AV.str (trB s1)]] = [AV.agg [AV.str a4, AV.str b5]] ∧ ifP (longF (Fld.mk a4 b5)) (AV.tup [AV.agg [AV.str [], AV.str []], AV.int IntKind.i64 3] = v) (AV.tup [AV.agg [AV.str (cutL s0 none (some i4)), AV.str (trB s1)], AV.int IntKind.i64 0] = v)))))))) (ifP (i4 == (↑(List.length s0) : Int)) (AV.tup [AV.agg [AV.str [], AV.str []], AV.int IntKind.i64 4] = v) (gAnd (cutOb (List.length s0) none (some i4)) (gAnd (cutOb (List.length s0) (some (IntKind.wrap IntKind.i64 (i4 + 1))) none) (∃ (s6 : List UInt8), List.length s6 ≤ 10000000 ∧ [AV.str (cutL s0 (some (IntKind.wrap IntKind.i64 (i4 + 1))) none)] = [AV.str s6] ∧ ∃ (a7 : List UInt8), ∃ (b8 : List UInt8), List.length a7 ≤ 100000 ∧ List.length b8 ≤ 100000 ∧ [AV.agg [AV.str (cutL s0 none (some i4)), AV.str (trB s6)]] = [AV.agg [AV.str a7, AV.str b8]] ∧ ifP (!mayF (Fld.mk a7 b8)) (AV.tup [AV.agg [AV.str [], AV.str []], AV.int IntKind.i64 4] = v) (∃ (a9 : List UInt8), ∃ (b10 : List UInt8), List.length a9 ≤ 100000 ∧ List.length b10 ≤ 100000 ∧ [AV.agg [AV.str (cutL s0 none (some i4)), AV.str (trB s6)]] = [AV.agg [AV.str a9, AV.str b10]] ∧ ifP (longF (Fld.mk a9 b10)) (AV.tup [AV.agg [AV.str [], AV.str []], AV.int IntKind.i64 3] = v) (AV.tup [AV.agg [AV.str (cutL s0 none (some i4)), AV.str (trB s6)], AV.int IntKind.i64 0] = v))))))) :
    ToEnd cfg 72 (bodyOf Tryd.f72) (RetIs Tryd.prog Tryd.f72 v) ([.code [0, 0, 1, 1, 1], Fm.block 0, Fm.code [1, 1, 1, 1]]) .normal ([(0, true, AV.str s0), (2, true, AV.ptr 0 0), (4, true, AV.int IntKind.i64 i4)]) ([Blk.mem 38 [AV.str sh0_0, AV.str sh0_1]]) := by
  have e : unr cfg 72 (bodyOf Tryd.f72) (ctab [(92, trimC), (93, fldC mayF), (94, fldC longF)]) ⟨[[0, 0, 1, 1, 1]], []⟩ (RetIs Tryd.prog Tryd.f72 v) 100000 ([.code [0, 0, 0, 1, 1, 1], .loop [0, 0, 1, 1, 1] 1, Fm.block 0, Fm.code [1, 1, 1, 1]]) .normal ([(0, true, AV.str s0), (2, true, AV.ptr 0 0), (4, true, AV.int IntKind.i64 i4)]) ([Blk.mem 38 [AV.str sh0_0, AV.str sh0_1]]) =
    (ifP (decide (i4 < (↑(List.length s0) : Int))) (gAnd (inR i4 (List.length s0)) (ifP ((↑(UInt8.toNat (List.getD s0 (Int.toNat i4) 0)) : Int) != 58) (ToEnd cfg 72 (bodyOf Tryd.f72) (RetIs Tryd.prog Tryd.f72 v) [Fm.code [0, 0, 1, 1, 1], Fm.block 0, Fm.code [1, 1, 1, 1]] XT.normal [(0, true, AV.str s0), (2, true, AV.ptr 0 0), (4, true, AV.int IntKind.i64 (IntKind.wrap IntKind.i64 (i4 + 1)))] [Blk.mem 38 [AV.str sh0_0, AV.str sh0_1]]) (ifP (i4 == (↑(List.length s0) : Int)) (AV.tup [AV.agg [AV.str [], AV.str []], AV.int IntKind.i64 4] = v) (gAnd (cutOb (List.length s0) none (some i4)) (gAnd (cutOb (List.length s0) (some (IntKind.wrap IntKind.i64 (i4 + 1))) none) (∃ (s1 : List UInt8), List.length s1 ≤ 10000000 ∧ [AV.str (cutL s0 (some (IntKind.wrap IntKind.i64 (i4 + 1))) none)] = [AV.str s1] ∧ ∃ (a2 : List UInt8), ∃ (b3 : List UInt8), List.length a2 ≤ 100000 ∧ List.length b3 ≤ 100000 ∧ [AV.agg [AV.str (cutL s0 none (some i4)), AV.str (trB s1)]] = [AV.agg [AV.str a2, AV.str b3]] ∧ ifP (!mayF (Fld.mk a2 b3)) (AV.tup [AV.agg [AV.str [], AV.str []], AV.int IntKind.i64 4] = v) (∃ (a4 : List UInt8), ∃ (b5 : List UInt8), List.length a4 ≤ 100000 ∧ List.length b5 ≤ 100000 ∧ [AV.agg [AV.str (cutL s0 none (some i4)), AV.str (trB s1)]] = [AV.agg [AV.str a4, AV.str b5]] ∧ ifP (longF (Fld.mk a4 b5)) (AV.tup [AV.agg [AV.str [], AV.str []], AV.int IntKind.i64 3] = v) (AV.tup [AV.agg [AV.str (cutL s0 none (some i4)), AV.str (trB s1)], AV.int IntKind.i64 0] = v)))))))) (ifP (i4 == (↑(List.length s0) : Int)) (AV.tup [AV.agg [AV.str [], AV.str []], AV.int IntKind.i64 4] = v) (gAnd (cutOb (List.length s0) none (some i4)) (gAnd (cutOb (List.length s0) (some (IntKind.wrap IntKind.i64 (i4 + 1))) none) (∃ (s6 : List UInt8), List.length s6 ≤ 10000000 ∧ [AV.str (cutL s0 (some (IntKind.wrap IntKind.i64 (i4 + 1))) none)] = [AV.str s6] ∧ ∃ (a7 : List UInt8), ∃ (b8 : List UInt8), List.length a7 ≤ 100000 ∧ List.length b8 ≤ 100000 ∧ [AV.agg [AV.str (cutL s0 none (some i4)), AV.str (trB s6)]] = [AV.agg [AV.str a7, AV.str b8]] ∧ ifP (!mayF (Fld.mk a7 b8)) (AV.tup [AV.agg [AV.str [], AV.str []], AV.int IntKind.i64 4] = v) (∃ (a9 : List UInt8), ∃ (b10 : List UInt8), List.length a9 ≤ 100000 ∧ List.length b10 ≤ 100000 ∧ [AV.agg [AV.str (cutL s0 none (some i4)), AV.str (trB s6)]] = [AV.agg [AV.str a9, AV.str b10]] ∧ ifP (longF (Fld.mk a9 b10)) (AV.tup [AV.agg [AV.str [], AV.str []], AV.int IntKind.i64 3] = v) (AV.tup [AV.agg [AV.str (cutL s0 none (some i4)), AV.str (trB s6)], AV.int IntKind.i64 0] = v))))))) := by kernel_rfl
  exact ends_round hT 100000 (by kernel_rfl) (e.mpr H)

theorem t44a {v : AV} {s : List UInt8} (hT : TabOk cfg (ctab [(65, cutGC), (68, trimC), (69, fldC mayF), (70, fldSC)])) (H :
    ToEnd cfg 44 (bodyOf Tryd.f44) (RetIs Tryd.prog Tryd.f44 v) [Fm.code [0, 0, 1], Fm.block 0, Fm.code [1, 1]] XT.normal [(0, true, AV.str s), (2, true, AV.sl 2 [] (some 0))] [Blk.grow 0 2 38]) :
    ToEnd cfg 44 (bodyOf Tryd.f44) (RetIs Tryd.prog Tryd.f44 v) ([.code []]) .normal ([(0, true, .str s)]) ([]) := by
  have e : unr cfg 44 (bodyOf Tryd.f44) (ctab [(65, cutGC), (68, trimC), (69, fldC mayF), (70, fldSC)]) ⟨[[0, 0, 1]], []⟩ (RetIs Tryd.prog Tryd.f44 v) 100000 ([.code []]) .normal ([(0, true, .str s)]) ([]) =
    (ToEnd cfg 44 (bodyOf Tryd.f44) (RetIs Tryd.prog Tryd.f44 v) [Fm.code [0, 0, 1], Fm.block 0, Fm.code [1, 1]] XT.normal [(0, true, AV.str s), (2, true, AV.sl 2 [] (some 0))] [Blk.grow 0 2 38]) := by kernel_rfl
  exact unr_ok hT 100000 _ _ _ _ (e.mpr H)

theorem t44b {v : AV}  {s0 : List UInt8} {e2 : List (List AV)} {g0 : Nat} (hT : TabOk cfg (ctab [(65, cutGC), (68, trimC), (69, fldC mayF), (70, fldSC)])) (H :
    ifP (!s0 == []) (∃ (s1 : List UInt8), ∃ (x2 : List UInt8), List.length s1 ≤ 10000000 ∧ [AV.str s0, AV.str [13, 10]] = [AV.str s1, AV.str x2] ∧ ifP (!Prod.snd (Prod.snd (cutS s1 x2))) (AV.tup [AV.sl 2 [] none, AV.int IntKind.i64 4] = v) (ifP ((↑(List.length e2) : Int) == 64) (AV.tup [AV.sl 2 [] none, AV.int IntKind.i64 3] = v) (ifP (decide ((↑(List.length (Prod.fst (cutS s1 x2))) : Int) > 2048)) (AV.tup [AV.sl 2 [] none, AV.int IntKind.i64 3] = v) (∃ (s3 : List UInt8), ∃ (x4 : List UInt8), List.length s3 ≤ 10000000 ∧ [AV.str (Prod.fst (cutS s1 x2)), AV.str [58]] = [AV.str s3, AV.str x4] ∧ ∃ (s5 : List UInt8), List.length s5 ≤ 10000000 ∧ [AV.str (Prod.fst (Prod.snd (cutS s3 x4)))] = [AV.str s5] ∧ ifP (!Prod.snd (Prod.snd (cutS s3 x4))) (AV.tup [AV.sl 2 [] none, AV.int IntKind.i64 4] = v) (∃ (a6 : List UInt8), ∃ (b7 : List UInt8), List.length a6 ≤ 100000 ∧ List.length b7 ≤ 100000 ∧ [AV.agg [AV.str (Prod.fst (cutS s3 x4)), AV.str (trB s5)]] = [AV.agg [AV.str a6, AV.str b7]] ∧ ifP (!mayF (Fld.mk a6 b7)) (AV.tup [AV.sl 2 [] none, AV.int IntKind.i64 4] = v) (∃ (a8 : List UInt8), ∃ (b9 : List UInt8), List.length a8 ≤ 100000 ∧ List.length b9 ≤ 100000 ∧ [AV.agg [AV.str (Prod.fst (cutS s3 x4)), AV.str (trB s5)]] = [AV.agg [AV.str a8, AV.str b9]] ∧ ifP (decide ((↑(List.length (a8 ++ [58, 32] ++ b9)) : Int) > 2048)) (AV.tup [AV.sl 2 [] none, AV.int IntKind.i64 3] = v) (gAnd (tagOk [Blk.grow g0 2 38, Blk.mem 38 [AV.str (Prod.fst (cutS s3 x4)), AV.str (trB s5)], Blk.grow 1 2 38] (List.length e2) 2 38 (some 0) && true && true && true && decide ((List.length e2 + 1) * 32 ≤ 140737488355328) && true && true) (gAnd (lowVss 1 (e2 ++ [[AV.str (Prod.fst (cutS s3 x4)), AV.str (trB s5)]]) && true && true && true) (ToEnd cfg 44 (bodyOf Tryd.f44) (RetIs Tryd.prog Tryd.f44 v) [Fm.code [0, 0, 1], Fm.block 0, Fm.code [1, 1]] XT.normal [(0, true, AV.str (Prod.fst (Prod.snd (cutS s1 x2)))), (2, true, AV.sl 2 (e2 ++ [[AV.str (Prod.fst (cutS s3 x4)), AV.str (trB s5)]]) (some 0))] [Blk.grow (List.length e2 + 1) 2 38]))))))))) (AV.tup [AV.sl 2 (stripss 0 [Blk.grow g0 2 38] e2) none, AV.int IntKind.i64 0] = v)) :
    ToEnd cfg 44 (bodyOf Tryd.f44) (RetIs Tryd.prog Tryd.f44 v) ([.code [0, 0, 1], Fm.block 0, Fm.code [1, 1]]) .normal ([(0, true, AV.str s0), (2, true, AV.sl 2 e2 (some 0))]) ([Blk.grow g0 2 38]) := by
  have e : unr cfg 44 (bodyOf Tryd.f44) (ctab [(65, cutGC), (68, trimC), (69, fldC mayF), (70, fldSC)]) ⟨[[0, 0, 1]], []⟩ (RetIs Tryd.prog Tryd.f44 v) 100000 ([.code [0, 0, 0, 1], .loop [0, 0, 1] 1, Fm.block 0, Fm.code [1, 1]]) .normal ([(0, true, AV.str s0), (2, true, AV.sl 2 e2 (some 0))]) ([Blk.grow g0 2 38]) =
    (ifP (!s0 == []) (∃ (s1 : List UInt8), ∃ (x2 : List UInt8), List.length s1 ≤ 10000000 ∧ [AV.str s0, AV.str [13, 10]] = [AV.str s1, AV.str x2] ∧ ifP (!Prod.snd (Prod.snd (cutS s1 x2))) (AV.tup [AV.sl 2 [] none, AV.int IntKind.i64 4] = v) (ifP ((↑(List.length e2) : Int) == 64) (AV.tup [AV.sl 2 [] none, AV.int IntKind.i64 3] = v) (ifP (decide ((↑(List.length (Prod.fst (cutS s1 x2))) : Int) > 2048)) (AV.tup [AV.sl 2 [] none, AV.int IntKind.i64 3] = v) (∃ (s3 : List UInt8), ∃ (x4 : List UInt8), List.length s3 ≤ 10000000 ∧ [AV.str (Prod.fst (cutS s1 x2)), AV.str [58]] = [AV.str s3, AV.str x4] ∧ ∃ (s5 : List UInt8), List.length s5 ≤ 10000000 ∧ [AV.str (Prod.fst (Prod.snd (cutS s3 x4)))] = [AV.str s5] ∧ ifP (!Prod.snd (Prod.snd (cutS s3 x4))) (AV.tup [AV.sl 2 [] none, AV.int IntKind.i64 4] = v) (∃ (a6 : List UInt8), ∃ (b7 : List UInt8), List.length a6 ≤ 100000 ∧ List.length b7 ≤ 100000 ∧ [AV.agg [AV.str (Prod.fst (cutS s3 x4)), AV.str (trB s5)]] = [AV.agg [AV.str a6, AV.str b7]] ∧ ifP (!mayF (Fld.mk a6 b7)) (AV.tup [AV.sl 2 [] none, AV.int IntKind.i64 4] = v) (∃ (a8 : List UInt8), ∃ (b9 : List UInt8), List.length a8 ≤ 100000 ∧ List.length b9 ≤ 100000 ∧ [AV.agg [AV.str (Prod.fst (cutS s3 x4)), AV.str (trB s5)]] = [AV.agg [AV.str a8, AV.str b9]] ∧ ifP (decide ((↑(List.length (a8 ++ [58, 32] ++ b9)) : Int) > 2048)) (AV.tup [AV.sl 2 [] none, AV.int IntKind.i64 3] = v) (gAnd (tagOk [Blk.grow g0 2 38, Blk.mem 38 [AV.str (Prod.fst (cutS s3 x4)), AV.str (trB s5)], Blk.grow 1 2 38] (List.length e2) 2 38 (some 0) && true && true && true && decide ((List.length e2 + 1) * 32 ≤ 140737488355328) && true && true) (gAnd (lowVss 1 (e2 ++ [[AV.str (Prod.fst (cutS s3 x4)), AV.str (trB s5)]]) && true && true && true) (ToEnd cfg 44 (bodyOf Tryd.f44) (RetIs Tryd.prog Tryd.f44 v) [Fm.code [0, 0, 1], Fm.block 0, Fm.code [1, 1]] XT.normal [(0, true, AV.str (Prod.fst (Prod.snd (cutS s1 x2)))), (2, true, AV.sl 2 (e2 ++ [[AV.str (Prod.fst (cutS s3 x4)), AV.str (trB s5)]]) (some 0))] [Blk.grow (List.length e2 + 1) 2 38]))))))))) (AV.tup [AV.sl 2 (stripss 0 [Blk.grow g0 2 38] e2) none, AV.int IntKind.i64 0] = v)) := by kernel_rfl
  exact ends_round hT 100000 (by kernel_rfl) (e.mpr H)

theorem t49a {v : AV} {s : List UInt8} (hT : TabOk cfg (ctab [(72, oneC)])) (H :
    ToEnd cfg 49 (bodyOf Tryd.f49) (RetIs Tryd.prog Tryd.f49 v) [Fm.code [0, 1, 0, 1, 1, 1], Fm.block 0, Fm.code [1, 1, 1, 1]] XT.normal [(0, true, AV.str s), (4, true, AV.sl 2 [] (some 1)), (5, true, AV.int IntKind.i64 0), (6, true, AV.int IntKind.i64 0)] [Blk.grow 0 2 38, Blk.grow 0 2 38]) :
    ToEnd cfg 49 (bodyOf Tryd.f49) (RetIs Tryd.prog Tryd.f49 v) ([.code []]) .normal ([(0, true, .str s)]) ([]) := by
  have e : unr cfg 49 (bodyOf Tryd.f49) (ctab [(72, oneC)]) ⟨[[0, 1, 0, 1, 1, 1]], []⟩ (RetIs Tryd.prog Tryd.f49 v) 100000 ([.code []]) .normal ([(0, true, .str s)]) ([]) =
    (ToEnd cfg 49 (bodyOf Tryd.f49) (RetIs Tryd.prog Tryd.f49 v) [Fm.code [0, 1, 0, 1, 1, 1], Fm.block 0, Fm.code [1, 1, 1, 1]] XT.normal [(0, true, AV.str s), (4, true, AV.sl 2 [] (some 1)), (5, true, AV.int IntKind.i64 0), (6, true, AV.int IntKind.i64 0)] [Blk.grow 0 2 38, Blk.grow 0 2 38]) := by kernel_rfl
  exact unr_ok hT 100000 _ _ _ _ (e.mpr H)

theorem t49b {v : AV}  {s0 : List UInt8} {e4 : List (List AV)} {i5 : Int} {i6 : Int} {g0 : Nat} {g1 : Nat} (hT : TabOk cfg (ctab [(72, oneC)])) (H :
    ifP (decide (IntKind.wrap IntKind.i64 (i6 + 1) < (↑(List.length s0) : Int))) (ifP (decide (i6 < i5)) (gAnd (lowVss 2 e4 && true && true && true) (ToEnd cfg 49 (bodyOf Tryd.f49) (RetIs Tryd.prog Tryd.f49 v) [Fm.code [0, 1, 0, 1, 1, 1], Fm.block 0, Fm.code [1, 1, 1, 1]] XT.normal [(0, true, AV.str s0), (4, true, AV.sl 2 e4 (some 1)), (5, true, AV.int IntKind.i64 i5), (6, true, AV.int IntKind.i64 (IntKind.wrap IntKind.i64 (i6 + 1)))] [Blk.grow g0 2 38, Blk.grow g1 2 38])) (gAnd (inR i6 (List.length s0)) (ifP ((↑(UInt8.toNat (List.getD s0 (Int.toNat i6) 0)) : Int) != 13) (gAnd (lowVss 2 e4 && true && true && true) (ToEnd cfg 49 (bodyOf Tryd.f49) (RetIs Tryd.prog Tryd.f49 v) [Fm.code [0, 1, 0, 1, 1, 1], Fm.block 0, Fm.code [1, 1, 1, 1]] XT.normal [(0, true, AV.str s0), (4, true, AV.sl 2 e4 (some 1)), (5, true, AV.int IntKind.i64 i5), (6, true, AV.int IntKind.i64 (IntKind.wrap IntKind.i64 (i6 + 1)))] [Blk.grow g0 2 38, Blk.grow g1 2 38])) (gAnd (inR (IntKind.wrap IntKind.i64 (i6 + 1)) (List.length s0)) (ifP ((↑(UInt8.toNat (List.getD s0 (Int.toNat (IntKind.wrap IntKind.i64 (i6 + 1))) 0)) : Int) != 10) (gAnd (lowVss 2 e4 && true && true && true) (ToEnd cfg 49 (bodyOf Tryd.f49) (RetIs Tryd.prog Tryd.f49 v) [Fm.code [0, 1, 0, 1, 1, 1], Fm.block 0, Fm.code [1, 1, 1, 1]] XT.normal [(0, true, AV.str s0), (4, true, AV.sl 2 e4 (some 1)), (5, true, AV.int IntKind.i64 i5), (6, true, AV.int IntKind.i64 (IntKind.wrap IntKind.i64 (i6 + 1)))] [Blk.grow g0 2 38, Blk.grow g1 2 38])) (ifP ((↑(List.length e4) : Int) == 64) (AV.tup [AV.sl 2 [] none, AV.int IntKind.i64 3] = v) (gAnd (cutOb (List.length s0) (some i5) (some i6)) (∃ (s1 : List UInt8), List.length s1 ≤ 100000 ∧ [AV.str (cutL s0 (some i5) (some i6))] = [AV.str s1] ∧ ifP (Prod.snd (oneF s1) != 0) (AV.tup [AV.sl 2 [] none, AV.int IntKind.i64 (Prod.snd (oneF s1))] = v) (gAnd (tagOk [Blk.grow g0 2 38, Blk.grow g1 2 38, Blk.mem 38 [AV.str (Fld.name (Prod.fst (oneF s1))), AV.str (Fld.value (Prod.fst (oneF s1)))], Blk.grow 1 2 38] (List.length e4) 2 38 (some 1) && true && true && true && decide ((List.length e4 + 1) * 32 ≤ 140737488355328) && true && true) (gAnd (lowVss 2 (e4 ++ [[AV.str (Fld.name (Prod.fst (oneF s1))), AV.str (Fld.value (Prod.fst (oneF s1)))]]) && true && true && true) (ToEnd cfg 49 (bodyOf Tryd.f49) (RetIs Tryd.prog Tryd.f49 v) [Fm.code [0, 1, 0, 1, 1, 1], Fm.block 0, Fm.code [1, 1, 1, 1]] XT.normal [(0, true, AV.str s0), (4, true, AV.sl 2 (e4 ++ [[AV.str (Fld.name (Prod.fst (oneF s1))), AV.str (Fld.value (Prod.fst (oneF s1)))]]) (some 1)), (5, true, AV.int IntKind.i64 (IntKind.wrap IntKind.i64 (i6 + 2))), (6, true, AV.int IntKind.i64 (IntKind.wrap IntKind.i64 (i6 + 1)))] [Blk.grow g0 2 38, Blk.grow (List.length e4 + 1) 2 38]))))))))))) (ifP (decide (i5 < (↑(List.length s0) : Int))) (AV.tup [AV.sl 2 [] none, AV.int IntKind.i64 4] = v) (AV.tup [AV.sl 2 (stripss 0 [Blk.grow g0 2 38, Blk.grow g1 2 38] e4) none, AV.int IntKind.i64 0] = v))) :
    ToEnd cfg 49 (bodyOf Tryd.f49) (RetIs Tryd.prog Tryd.f49 v) ([.code [0, 1, 0, 1, 1, 1], Fm.block 0, Fm.code [1, 1, 1, 1]]) .normal ([(0, true, AV.str s0), (4, true, AV.sl 2 e4 (some 1)), (5, true, AV.int IntKind.i64 i5), (6, true, AV.int IntKind.i64 i6)]) ([Blk.grow g0 2 38, Blk.grow g1 2 38]) := by
  have e : unr cfg 49 (bodyOf Tryd.f49) (ctab [(72, oneC)]) ⟨[[0, 1, 0, 1, 1, 1]], []⟩ (RetIs Tryd.prog Tryd.f49 v) 100000 ([.code [0, 0, 1, 0, 1, 1, 1], .loop [0, 1, 0, 1, 1, 1] 2, Fm.block 0, Fm.code [1, 1, 1, 1]]) .normal ([(0, true, AV.str s0), (4, true, AV.sl 2 e4 (some 1)), (5, true, AV.int IntKind.i64 i5), (6, true, AV.int IntKind.i64 i6)]) ([Blk.grow g0 2 38, Blk.grow g1 2 38]) =
    (ifP (decide (IntKind.wrap IntKind.i64 (i6 + 1) < (↑(List.length s0) : Int))) (ifP (decide (i6 < i5)) (gAnd (lowVss 2 e4 && true && true && true) (ToEnd cfg 49 (bodyOf Tryd.f49) (RetIs Tryd.prog Tryd.f49 v) [Fm.code [0, 1, 0, 1, 1, 1], Fm.block 0, Fm.code [1, 1, 1, 1]] XT.normal [(0, true, AV.str s0), (4, true, AV.sl 2 e4 (some 1)), (5, true, AV.int IntKind.i64 i5), (6, true, AV.int IntKind.i64 (IntKind.wrap IntKind.i64 (i6 + 1)))] [Blk.grow g0 2 38, Blk.grow g1 2 38])) (gAnd (inR i6 (List.length s0)) (ifP ((↑(UInt8.toNat (List.getD s0 (Int.toNat i6) 0)) : Int) != 13) (gAnd (lowVss 2 e4 && true && true && true) (ToEnd cfg 49 (bodyOf Tryd.f49) (RetIs Tryd.prog Tryd.f49 v) [Fm.code [0, 1, 0, 1, 1, 1], Fm.block 0, Fm.code [1, 1, 1, 1]] XT.normal [(0, true, AV.str s0), (4, true, AV.sl 2 e4 (some 1)), (5, true, AV.int IntKind.i64 i5), (6, true, AV.int IntKind.i64 (IntKind.wrap IntKind.i64 (i6 + 1)))] [Blk.grow g0 2 38, Blk.grow g1 2 38])) (gAnd (inR (IntKind.wrap IntKind.i64 (i6 + 1)) (List.length s0)) (ifP ((↑(UInt8.toNat (List.getD s0 (Int.toNat (IntKind.wrap IntKind.i64 (i6 + 1))) 0)) : Int) != 10) (gAnd (lowVss 2 e4 && true && true && true) (ToEnd cfg 49 (bodyOf Tryd.f49) (RetIs Tryd.prog Tryd.f49 v) [Fm.code [0, 1, 0, 1, 1, 1], Fm.block 0, Fm.code [1, 1, 1, 1]] XT.normal [(0, true, AV.str s0), (4, true, AV.sl 2 e4 (some 1)), (5, true, AV.int IntKind.i64 i5), (6, true, AV.int IntKind.i64 (IntKind.wrap IntKind.i64 (i6 + 1)))] [Blk.grow g0 2 38, Blk.grow g1 2 38])) (ifP ((↑(List.length e4) : Int) == 64) (AV.tup [AV.sl 2 [] none, AV.int IntKind.i64 3] = v) (gAnd (cutOb (List.length s0) (some i5) (some i6)) (∃ (s1 : List UInt8), List.length s1 ≤ 100000 ∧ [AV.str (cutL s0 (some i5) (some i6))] = [AV.str s1] ∧ ifP (Prod.snd (oneF s1) != 0) (AV.tup [AV.sl 2 [] none, AV.int IntKind.i64 (Prod.snd (oneF s1))] = v) (gAnd (tagOk [Blk.grow g0 2 38, Blk.grow g1 2 38, Blk.mem 38 [AV.str (Fld.name (Prod.fst (oneF s1))), AV.str (Fld.value (Prod.fst (oneF s1)))], Blk.grow 1 2 38] (List.length e4) 2 38 (some 1) && true && true && true && decide ((List.length e4 + 1) * 32 ≤ 140737488355328) && true && true) (gAnd (lowVss 2 (e4 ++ [[AV.str (Fld.name (Prod.fst (oneF s1))), AV.str (Fld.value (Prod.fst (oneF s1)))]]) && true && true && true) (ToEnd cfg 49 (bodyOf Tryd.f49) (RetIs Tryd.prog Tryd.f49 v) [Fm.code [0, 1, 0, 1, 1, 1], Fm.block 0, Fm.code [1, 1, 1, 1]] XT.normal [(0, true, AV.str s0), (4, true, AV.sl 2 (e4 ++ [[AV.str (Fld.name (Prod.fst (oneF s1))), AV.str (Fld.value (Prod.fst (oneF s1)))]]) (some 1)), (5, true, AV.int IntKind.i64 (IntKind.wrap IntKind.i64 (i6 + 2))), (6, true, AV.int IntKind.i64 (IntKind.wrap IntKind.i64 (i6 + 1)))] [Blk.grow g0 2 38, Blk.grow (List.length e4 + 1) 2 38]))))))))))) (ifP (decide (i5 < (↑(List.length s0) : Int))) (AV.tup [AV.sl 2 [] none, AV.int IntKind.i64 4] = v) (AV.tup [AV.sl 2 (stripss 0 [Blk.grow g0 2 38, Blk.grow g1 2 38] e4) none, AV.int IntKind.i64 0] = v))) := by kernel_rfl
  exact ends_round hT 100000 (by kernel_rfl) (e.mpr H)

theorem t110 {v : AV} {c : Int} (hT : TabOk cfg (ctab [])) (H :
    AV.int IntKind.u8 (bits BinOp.or IntKind.u8 c 32) = v) :
    ToEnd cfg 110 (bodyOf Tryd.f110) (RetIs Tryd.prog Tryd.f110 v) ([.code []]) .normal ([(0, true, .int .u8 c)]) ([]) := by
  have e : unr cfg 110 (bodyOf Tryd.f110) (ctab []) ⟨[], []⟩ (RetIs Tryd.prog Tryd.f110 v) 100000 ([.code []]) .normal ([(0, true, .int .u8 c)]) ([]) =
    (AV.int IntKind.u8 (bits BinOp.or IntKind.u8 c 32) = v) := by kernel_rfl
  exact unr_ok hT 100000 _ _ _ _ (e.mpr H)

theorem t71 {v : AV} {c : Int} (hT : TabOk cfg (ctab [])) (H :
    ifP (decide (c ≥ 48)) (ifP (decide (c ≤ 57)) (AV.int IntKind.i64 (IntKind.wrap IntKind.i64 (IntKind.wrap IntKind.u8 (c - 48))) = v) (ifP (decide (c ≥ 97)) (ifP (decide (c ≤ 102)) (AV.int IntKind.i64 (IntKind.wrap IntKind.i64 (IntKind.wrap IntKind.i64 (IntKind.wrap IntKind.u8 (c - 97)) + 10)) = v) (ifP (decide (c ≥ 65)) (ifP (decide (c ≤ 70)) (AV.int IntKind.i64 (IntKind.wrap IntKind.i64 (IntKind.wrap IntKind.i64 (IntKind.wrap IntKind.u8 (c - 65)) + 10)) = v) (AV.int IntKind.i64 (-1) = v)) (AV.int IntKind.i64 (-1) = v))) (ifP (decide (c ≥ 65)) (ifP (decide (c ≤ 70)) (AV.int IntKind.i64 (IntKind.wrap IntKind.i64 (IntKind.wrap IntKind.i64 (IntKind.wrap IntKind.u8 (c - 65)) + 10)) = v) (AV.int IntKind.i64 (-1) = v)) (AV.int IntKind.i64 (-1) = v)))) (ifP (decide (c ≥ 97)) (ifP (decide (c ≤ 102)) (AV.int IntKind.i64 (IntKind.wrap IntKind.i64 (IntKind.wrap IntKind.i64 (IntKind.wrap IntKind.u8 (c - 97)) + 10)) = v) (ifP (decide (c ≥ 65)) (ifP (decide (c ≤ 70)) (AV.int IntKind.i64 (IntKind.wrap IntKind.i64 (IntKind.wrap IntKind.i64 (IntKind.wrap IntKind.u8 (c - 65)) + 10)) = v) (AV.int IntKind.i64 (-1) = v)) (AV.int IntKind.i64 (-1) = v))) (ifP (decide (c ≥ 65)) (ifP (decide (c ≤ 70)) (AV.int IntKind.i64 (IntKind.wrap IntKind.i64 (IntKind.wrap IntKind.i64 (IntKind.wrap IntKind.u8 (c - 65)) + 10)) = v) (AV.int IntKind.i64 (-1) = v)) (AV.int IntKind.i64 (-1) = v)))) :
    ToEnd cfg 71 (bodyOf Tryd.f71) (RetIs Tryd.prog Tryd.f71 v) ([.code []]) .normal ([(0, true, .int .u8 c)]) ([]) := by
  have e : unr cfg 71 (bodyOf Tryd.f71) (ctab []) ⟨[], []⟩ (RetIs Tryd.prog Tryd.f71 v) 100000 ([.code []]) .normal ([(0, true, .int .u8 c)]) ([]) =
    (ifP (decide (c ≥ 48)) (ifP (decide (c ≤ 57)) (AV.int IntKind.i64 (IntKind.wrap IntKind.i64 (IntKind.wrap IntKind.u8 (c - 48))) = v) (ifP (decide (c ≥ 97)) (ifP (decide (c ≤ 102)) (AV.int IntKind.i64 (IntKind.wrap IntKind.i64 (IntKind.wrap IntKind.i64 (IntKind.wrap IntKind.u8 (c - 97)) + 10)) = v) (ifP (decide (c ≥ 65)) (ifP (decide (c ≤ 70)) (AV.int IntKind.i64 (IntKind.wrap IntKind.i64 (IntKind.wrap IntKind.i64 (IntKind.wrap IntKind.u8 (c - 65)) + 10)) = v) (AV.int IntKind.i64 (-1) = v)) (AV.int IntKind.i64 (-1) = v))) (ifP (decide (c ≥ 65)) (ifP (decide (c ≤ 70)) (AV.int IntKind.i64 (IntKind.wrap IntKind.i64 (IntKind.wrap IntKind.i64 (IntKind.wrap IntKind.u8 (c - 65)) + 10)) = v) (AV.int IntKind.i64 (-1) = v)) (AV.int IntKind.i64 (-1) = v)))) (ifP (decide (c ≥ 97)) (ifP (decide (c ≤ 102)) (AV.int IntKind.i64 (IntKind.wrap IntKind.i64 (IntKind.wrap IntKind.i64 (IntKind.wrap IntKind.u8 (c - 97)) + 10)) = v) (ifP (decide (c ≥ 65)) (ifP (decide (c ≤ 70)) (AV.int IntKind.i64 (IntKind.wrap IntKind.i64 (IntKind.wrap IntKind.i64 (IntKind.wrap IntKind.u8 (c - 65)) + 10)) = v) (AV.int IntKind.i64 (-1) = v)) (AV.int IntKind.i64 (-1) = v))) (ifP (decide (c ≥ 65)) (ifP (decide (c ≤ 70)) (AV.int IntKind.i64 (IntKind.wrap IntKind.i64 (IntKind.wrap IntKind.i64 (IntKind.wrap IntKind.u8 (c - 65)) + 10)) = v) (AV.int IntKind.i64 (-1) = v)) (AV.int IntKind.i64 (-1) = v)))) := by kernel_rfl
  exact unr_ok hT 100000 _ _ _ _ (e.mpr H)

theorem t47 {v : AV} {s : List UInt8} {n : Int} (hT : TabOk cfg (ctab [])) (H :
    ifP (decide (IntKind.wrap IntKind.i64 (n + 1) < (↑(List.length s) : Int))) (gAnd (inR n (List.length s)) (ifP ((↑(UInt8.toNat (List.getD s (Int.toNat n) 0)) : Int) == 13) (gAnd (inR (IntKind.wrap IntKind.i64 (n + 1)) (List.length s)) (AV.bool ((↑(UInt8.toNat (List.getD s (Int.toNat (IntKind.wrap IntKind.i64 (n + 1))) 0)) : Int) == 10) = v)) (AV.bool false = v))) (AV.bool false = v)) :
    ToEnd cfg 47 (bodyOf Tryd.f47) (RetIs Tryd.prog Tryd.f47 v) ([.code []]) .normal ([(0, true, .str s), (1, true, .int .i64 n)]) ([]) := by
  have e : unr cfg 47 (bodyOf Tryd.f47) (ctab []) ⟨[], []⟩ (RetIs Tryd.prog Tryd.f47 v) 100000 ([.code []]) .normal ([(0, true, .str s), (1, true, .int .i64 n)]) ([]) =
    (ifP (decide (IntKind.wrap IntKind.i64 (n + 1) < (↑(List.length s) : Int))) (gAnd (inR n (List.length s)) (ifP ((↑(UInt8.toNat (List.getD s (Int.toNat n) 0)) : Int) == 13) (gAnd (inR (IntKind.wrap IntKind.i64 (n + 1)) (List.length s)) (AV.bool ((↑(UInt8.toNat (List.getD s (Int.toNat (IntKind.wrap IntKind.i64 (n + 1))) 0)) : Int) == 10) = v)) (AV.bool false = v))) (AV.bool false = v)) := by kernel_rfl
  exact unr_ok hT 100000 _ _ _ _ (e.mpr H)

end Go.Proofs.YtnncfdlpogjlkaaDoor
end

section
namespace Go.Proofs.YtnncfdlpogjlkaaDoor
open Go.Ai Go
set_option linter.unusedSimpArgs false
set_option linter.unusedVariables false
set_option linter.unnecessarySimpa false
set_option maxRecDepth 100000

theorem pf133 : pureFn cfg 133 Tryd.f133 := ⟨by kernel_rfl, by kernel_rfl, by kernel_rfl, by kernel_rfl, by kernel_rfl, by kernel_rfl⟩
theorem pf116 : pureFn cfg 116 Tryd.f116 := ⟨by kernel_rfl, by kernel_rfl, by kernel_rfl, by kernel_rfl, by kernel_rfl, by kernel_rfl⟩
theorem pf134 : pureFn cfg 134 Tryd.f134 := ⟨by kernel_rfl, by kernel_rfl, by kernel_rfl, by kernel_rfl, by kernel_rfl, by kernel_rfl⟩
theorem pf90 : pureFn cfg 90 Tryd.f90 := ⟨by kernel_rfl, by kernel_rfl, by kernel_rfl, by kernel_rfl, by kernel_rfl, by kernel_rfl⟩
theorem pf117 : pureFn cfg 117 Tryd.f117 := ⟨by kernel_rfl, by kernel_rfl, by kernel_rfl, by kernel_rfl, by kernel_rfl, by kernel_rfl⟩
theorem pf61 : pureFn cfg 61 Tryd.f61 := ⟨by kernel_rfl, by kernel_rfl, by kernel_rfl, by kernel_rfl, by kernel_rfl, by kernel_rfl⟩
theorem pf37 : pureFn cfg 37 Tryd.f37 := ⟨by kernel_rfl, by kernel_rfl, by kernel_rfl, by kernel_rfl, by kernel_rfl, by kernel_rfl⟩
theorem pf42 : pureFn cfg 42 Tryd.f42 := ⟨by kernel_rfl, by kernel_rfl, by kernel_rfl, by kernel_rfl, by kernel_rfl, by kernel_rfl⟩
theorem pf91 : pureFn cfg 91 Tryd.f91 := ⟨by kernel_rfl, by kernel_rfl, by kernel_rfl, by kernel_rfl, by kernel_rfl, by kernel_rfl⟩
theorem pf69 : pureFn cfg 69 Tryd.f69 := ⟨by kernel_rfl, by kernel_rfl, by kernel_rfl, by kernel_rfl, by kernel_rfl, by kernel_rfl⟩
theorem pf70 : pureFn cfg 70 Tryd.f70 := ⟨by kernel_rfl, by kernel_rfl, by kernel_rfl, by kernel_rfl, by kernel_rfl, by kernel_rfl⟩
theorem pf93 : pureFn cfg 93 Tryd.f93 := ⟨by kernel_rfl, by kernel_rfl, by kernel_rfl, by kernel_rfl, by kernel_rfl, by kernel_rfl⟩
theorem pf94 : pureFn cfg 94 Tryd.f94 := ⟨by kernel_rfl, by kernel_rfl, by kernel_rfl, by kernel_rfl, by kernel_rfl, by kernel_rfl⟩
theorem pf72 : pureFn cfg 72 Tryd.f72 := ⟨by kernel_rfl, by kernel_rfl, by kernel_rfl, by kernel_rfl, by kernel_rfl, by kernel_rfl⟩
theorem pf44 : pureFn cfg 44 Tryd.f44 := ⟨by kernel_rfl, by kernel_rfl, by kernel_rfl, by kernel_rfl, by kernel_rfl, by kernel_rfl⟩
theorem pf49 : pureFn cfg 49 Tryd.f49 := ⟨by kernel_rfl, by kernel_rfl, by kernel_rfl, by kernel_rfl, by kernel_rfl, by kernel_rfl⟩
theorem pf71 : pureFn cfg 71 Tryd.f71 := ⟨by kernel_rfl, by kernel_rfl, by kernel_rfl, by kernel_rfl, by kernel_rfl, by kernel_rfl⟩
theorem pf47 : pureFn cfg 47 Tryd.f47 := ⟨by kernel_rfl, by kernel_rfl, by kernel_rfl, by kernel_rfl, by kernel_rfl, by kernel_rfl⟩

theorem wrap_b {n : Nat} (h : n ≤ big) : IntKind.wrap .i64 ((n : Int) + 1) = ((n + 1 : Nat) : Int) := by
  unfold big at h; rw [wrap_in] <;> omega

/-! Bytes -/
theorem c133 : COk cfg 133 (byteC letterB) := by
  refine cok_pure pf133 fun vs h K ht => ?_
  obtain ⟨c, rfl, hk⟩ := ht
  refine ⟨_, hk, t133 (ctab_ok ctab_nil) ?_⟩
  repeat' refine ifP_intro (fun _ => ?_) fun _ => ?_
  all_goals (refine bool_av ?_; simp only [letterB, decide_eq_true_eq, decide_eq_false_iff_not, Bool.and_eq_true, Bool.or_eq_true, Bool.false_eq_true, eq_self_iff_true, true_iff, false_iff] at *; omega)
theorem ix_nonneg : ∀ (l : List UInt8) (c : UInt8), (Lib.indexByte l c ≥ 0) ↔ l.contains c = true
  | [], c => by simp [Lib.indexByte]
  | b :: l, c => by
    have ih := ix_nonneg l c
    have hg := Lib.indexByte_ge l c
    rw [Lib.indexByte]
    by_cases h : b = c
    · subst h; simp
    · have h' : ¬c = b := fun e => h e.symm
      have hb : (b == c) = false := by simpa using h
      have hb' : (c == b) = false := by simpa using h'
      rw [List.contains_cons, hb', Bool.false_or, ← ih, hb]
      by_cases h1 : Lib.indexByte l c = -1
      · simp [h1]
      · have h2 : (Lib.indexByte l c == -1) = false := by simpa using h1
        simp only [h2, Bool.false_eq_true, if_false]
        omega
theorem c132 : COk cfg 132 ixC := by
  refine cok_prim (by kernel_rfl) (by kernel_rfl) (by kernel_rfl : cfg.prim 132 = some pByteIx) (by kernel_rfl) fun vs h K ht => ?_
  obtain ⟨s, c, rfl, hk⟩ := ht
  have := c.toNat_lt
  refine ⟨.int .i64 (Lib.indexByte s c), hk, ?_⟩
  have e : (c.toNat : Int).toNat.toUInt8 = c := by simp
  simp only [pByteIx, e]
  rw [decide_eq_true (by omega), decide_eq_true (by omega)]; rfl
theorem c116 : COk cfg 116 (byteC wordB) := by
  refine cok_pure pf116 fun vs h K ht => ?_
  obtain ⟨c, rfl, hk⟩ := ht
  refine ⟨_, hk, t116 (ctab_ok (ctab_cons c132 ctab_nil)) ?_⟩
  have hm := ix_nonneg marksB c
  generalize hq : decide (Lib.indexByte marksB c ≥ 0) = q
  have hq' : q = true ↔ marksB.contains c = true := by rw [← hq, decide_eq_true_eq]; exact hm
  repeat' refine ifP_intro (fun _ => ?_) fun _ => ?_
  all_goals first
    | refine ⟨marksB, c, rfl, ?_⟩
      rw [hq]
      refine bool_av ?_
      rw [hq']
      unfold wordB
      clear hq hq' hm
      generalize marksB.contains c = m
      cases m <;> simp only [decide_eq_true_eq, decide_eq_false_iff_not, Bool.and_eq_true, Bool.or_eq_true, Bool.false_eq_true, eq_self_iff_true, true_iff, false_iff, or_true, or_false] at * <;> omega
    | refine bool_av ?_
      simp only [wordB, decide_eq_true_eq, decide_eq_false_iff_not, Bool.and_eq_true, Bool.or_eq_true, Bool.false_eq_true, eq_self_iff_true, true_iff, false_iff] at *
      omega
theorem loop134 (c : UInt8) : ∀ (r pre : List UInt8), (pre ++ r).length ≤ big →
    ToEnd cfg 134 (bodyOf Tryd.f134) (RetIs Tryd.prog Tryd.f134 (.bool (r.contains c))) [.code [0, 1, 0, 1], .block 0, .code [1, 1]] .normal [(0, true, .int .u8 c.toNat), (1, true, .str (pre ++ r)), (5, true, .int .i64 pre.length)] [] := by
  intro r
  induction r with
  | nil =>
    intro pre hl
    refine t134b (ctab_ok ctab_nil) (ifP_intro (fun a => ?_) fun _ => rfl)
    simp at a
  | cons x r ih =>
    intro pre hl
    have hlen : pre.length ≤ big := by simp at hl; omega
    refine t134b (ctab_ok ctab_nil) (ifP_intro (fun _ => gAnd_intro (inR_of (by omega) (by simp; omega)) ?_) fun a => ?_)
    · rw [at_pre]
      refine ifP_intro (fun b => ?_) fun b => ?_
      · have : x = c := by
          have hb : (x.toNat : Int) = c.toNat := by simpa using b
          exact UInt8.toNat_inj.1 (by omega)
        subst this
        simp
      · have hne : (c == x) = false := by
          rw [beq_eq_false_iff_ne]
          rintro rfl
          simp at b
        rw [wrap_b hlen, List.contains_cons, hne, Bool.false_or]
        have := ih (pre ++ [x]) (by simpa using hl)
        simpa using this
    · simp at a; omega
theorem c134 : COk cfg 134 inC := by
  refine cok_pure pf134 fun vs h K ht => ?_
  obtain ⟨c, s, hl, rfl, hk⟩ := ht
  exact ⟨_, hk, t134a (ctab_ok ctab_nil) (loop134 c s [] hl)⟩
theorem loop90 : ∀ (r pre : List UInt8), (pre ++ r).length ≤ big →
    ToEnd cfg 90 (bodyOf Tryd.f90) (RetIs Tryd.prog Tryd.f90 (.bool (r.all wordB && !(pre ++ r).isEmpty))) [.code [0, 1, 0, 1], .block 0, .code [1, 1]] .normal [(0, true, .str (pre ++ r)), (5, true, .int .i64 (pre ++ r).length), (6, true, .int .i64 pre.length)] [] := by
  have hT : TabOk cfg (ctab [(116, byteC wordB)]) := ctab_ok (ctab_cons c116 ctab_nil)
  intro r
  induction r with
  | nil =>
    intro pre hl
    refine t90b hT (ifP_intro (fun a => ?_) fun _ => ?_)
    · simp at a
    · refine bool_av ?_
      cases pre <;> simp
  | cons x r ih =>
    intro pre hl
    have hlen : pre.length ≤ big := by simp at hl; omega
    refine t90b hT (ifP_intro (fun _ => gAnd_intro (inR_of (by omega) (by simp; omega)) ⟨x, by rw [at_pre], ifP_intro (fun b => ?_) fun b => ?_⟩) fun a => ?_)
    · have hb : wordB x = false := by simpa using b
      rw [List.all_cons, hb]; rfl
    · have hb : wordB x = true := by simpa using b
      rw [wrap_b hlen, List.all_cons, hb, Bool.true_and]
      have := ih (pre ++ [x]) (by simpa using hl)
      simpa using this
    · simp at a; omega
theorem c90 : COk cfg 90 (strC tokenB) := by
  refine cok_pure pf90 fun vs h K ht => ?_
  obtain ⟨s, hl, rfl, hk⟩ := ht
  exact ⟨_, hk, t90a (ctab_ok (ctab_cons c116 ctab_nil)) (loop90 s [] hl)⟩
theorem word_split (c : UInt8) : wordB c = (letterB c || marksB.contains c) := by
  unfold wordB letterB
  generalize marksB.contains c = m
  cases decide (97 ≤ c.toNat) && decide (c.toNat ≤ 122) <;> cases decide (65 ≤ c.toNat) && decide (c.toNat ≤ 90) <;> cases decide (48 ≤ c.toNat) && decide (c.toNat ≤ 57) <;> cases m <;> rfl
theorem loop117 : ∀ (r pre : List UInt8), (pre ++ r).length ≤ big →
    ToEnd cfg 117 (bodyOf Tryd.f117) (RetIs Tryd.prog Tryd.f117 (.bool (r.all wordB && !(pre ++ r).isEmpty))) [.code [0, 1, 0, 1], .block 0, .code [1, 1]] .normal [(0, true, .str (pre ++ r)), (3, true, .int .i64 pre.length)] [] := by
  have hT : TabOk cfg (ctab [(133, byteC letterB), (134, inC)]) := ctab_ok (ctab_cons c133 (ctab_cons c134 ctab_nil))
  intro r
  induction r with
  | nil =>
    intro pre hl
    refine t117b hT (ifP_intro (fun a => ?_) fun _ => ?_)
    · simp at a
    · refine bool_av ?_
      cases pre <;> simp
  | cons x r ih =>
    intro pre hl
    have hlen : pre.length ≤ big := by simp at hl; omega
    have hin : inR (pre.length : Int) (pre ++ x :: r).length = true := inR_of (by omega) (by simp; omega)
    have next : wordB x = true → ToEnd cfg 117 (bodyOf Tryd.f117) (RetIs Tryd.prog Tryd.f117 (.bool ((x :: r).all wordB && !(pre ++ x :: r).isEmpty))) [.code [0, 1, 0, 1], .block 0, .code [1, 1]] .normal [(0, true, .str (pre ++ x :: r)), (3, true, .int .i64 (IntKind.wrap .i64 ((pre.length : Int) + 1)))] [] := fun hb => by
      rw [wrap_b hlen, List.all_cons, hb, Bool.true_and]
      have := ih (pre ++ [x]) (by simpa using hl)
      simpa using this
    refine t117b hT (ifP_intro (fun _ => gAnd_intro hin ⟨x, by rw [at_pre], ifP_intro (fun b => gAnd_intro hin ⟨x, marksB, by decide, by rw [at_pre]; rfl, ifP_intro (fun d => ?_) fun d => next ?_⟩) fun b => next ?_⟩) fun a => ?_)
    · have : wordB x = false := by rw [word_split]; simp at b d; simp [b]; exact d
      rw [List.all_cons, this]; rfl
    · rw [word_split]; simp at d; simp [d]
    · rw [word_split]; simp at b; simp [b]
    · simp at a; omega
theorem c117 : COk cfg 117 (strC tokenB) := by
  refine cok_pure pf117 fun vs h K ht => ?_
  obtain ⟨s, hl, rfl, hk⟩ := ht
  exact ⟨_, hk, t117a (ctab_ok (ctab_cons c133 (ctab_cons c134 ctab_nil))) (loop117 s [] hl)⟩

/-! Prefixes, places -/
theorem c61 : COk cfg 61 prefC := by
  refine cok_pure pf61 fun vs h K ht => ?_
  obtain ⟨s, x, rfl, hk⟩ := ht
  refine ⟨_, hk, t61 (ctab_ok ctab_nil) (ifP_intro (fun a => ?_) fun a => ?_)⟩
  · have hl : x.length ≤ s.length := by simpa using a
    refine gAnd_intro (by simp [cutOb]; omega) ?_
    refine bool_av ?_
    simp only [cutL, Int.toNat_natCast, beq_iff_eq]
    rw [List.isPrefixOf_iff_prefix]
    exact ⟨fun h => h ▸ List.take_prefix _ _, fun h => (List.prefix_iff_eq_take.1 h).symm⟩
  · have hl : s.length < x.length := by simpa using a
    refine bool_av ⟨fun h => by (cases h), fun h => ?_⟩
    have := (List.isPrefixOf_iff_prefix.1 h).length_le
    omega
theorem c37 : COk cfg 37 prefC := by
  refine cok_pure pf37 fun vs h K ht => ?_
  obtain ⟨s, x, rfl, hk⟩ := ht
  exact ⟨_, hk, t37 (ctab_ok (ctab_cons c61 ctab_nil)) ⟨s, x, rfl, rfl⟩⟩
theorem c64 : COk cfg 64 ixSC := by
  refine cok_prim (by kernel_rfl) (by kernel_rfl) (by kernel_rfl : cfg.prim 64 = some pIndex) (by kernel_rfl) fun vs h K ht => ?_
  obtain ⟨s, x, hl, rfl, hk⟩ := ht
  refine ⟨.int .i64 (idxB s x 0), hk, ?_⟩
  have : Nat.blt s.length 4294967281 = true := Nat.ble_eq_true_of_le (by unfold lim at hl; omega)
  simp only [pIndex, this]
theorem c65 : COk cfg 65 cutGC := by
  refine cok_prim (by kernel_rfl) (by kernel_rfl) (by kernel_rfl : cfg.prim 65 = some pCut) (by kernel_rfl) fun vs h K ht => ?_
  obtain ⟨s, x, hl, rfl, hk⟩ := ht
  refine ⟨.tup [.str (cutS s x).1, .str (cutS s x).2.1, .bool (cutS s x).2.2], hk, ?_⟩
  have : Nat.blt s.length 4294967281 = true := Nat.ble_eq_true_of_le (by unfold lim at hl; omega)
  simp only [pCut, this]
theorem cutS_fnd (s x : List UInt8) : cutS s x = match fnd x s with | some n => (s.take n, s.drop (n + x.length), true) | none => (s, [], false) := by
  unfold cutS
  rw [idxB_fnd]
  cases fnd x s with
  | none => rfl
  | some n =>
    simp only [Nat.zero_add]
    rw [decide_eq_true (by omega)]
    simp
theorem c42 : COk cfg 42 lineC := by
  refine cok_pure pf42 fun vs h K ht => ?_
  obtain ⟨s, en, m, hs, hen, hm, rfl, hk⟩ := ht
  have hc : cutL s none (some (min (s.length : Int) (m : Int))) = s.take m := by
    have : (min (s.length : Int) (m : Int)).toNat = min s.length m := by omega
    simp only [cutL, this]
    rw [Nat.min_comm, ← List.take_take, List.take_length]
  refine ⟨_, hk, t42 (ctab_ok (ctab_cons c64 ctab_nil)) (gAnd_intro (by simp [cutOb]; omega) ⟨s.take m, en, by unfold lim at hs; rw [List.length_take]; omega, by rw [hc], ?_⟩)⟩
  unfold lineA
  rw [idxB_fnd]
  cases hf : fnd en (s.take m) with
  | none =>
    refine ifP_intro (fun b => by simp at b) fun _ => ifP_intro (fun b => ?_) fun b => ?_
    · rw [if_pos (by simpa using b)]; rfl
    · rw [if_neg (by simp at b; omega)]; rfl
  | some n =>
    have h2 := (fnd_some hf).2
    simp at h2
    refine ifP_intro (fun _ => gAnd_intro (by simp [cutOb]; omega) ?_) fun b => by simp at b
    have : IntKind.wrap .i64 (((0 + n : Nat) : Int) + (en.length : Int)) = ((n + en.length : Nat) : Int) := by unfold lim at hs; rw [wrap_in (by omega) (by omega)]; omega
    simp only [this]
    simp [cutL]

/-! Values -/
theorem isBl_nat (c : UInt8) : isBl c = true ↔ c.toNat = 32 ∨ c.toNat = 9 := by
  unfold isBl
  rw [Bool.or_eq_true, beq_iff_eq, beq_iff_eq, ← UInt8.toNat_inj, ← UInt8.toNat_inj]
  rfl
theorem valC_nat (c : UInt8) : valC c = true ↔ ¬ ((c.toNat < 32 ∧ c.toNat ≠ 9) ∨ c.toNat = 127) := by
  unfold valC
  simp only [Bool.not_eq_true', Bool.or_eq_false_iff, Bool.and_eq_false_iff, Bool.not_eq_false', decide_eq_true_eq, decide_eq_false_iff_not]
  omega
theorem loop91 : ∀ (r pre : List UInt8), (pre ++ r).length ≤ big →
    ToEnd cfg 91 (bodyOf Tryd.f91) (RetIs Tryd.prog Tryd.f91 (.bool (r.all valC && (trB (pre ++ r) == pre ++ r)))) [.code [0, 1, 0, 1], .block 0, .code [1, 1]] .normal [(0, true, .str (pre ++ r)), (6, true, .int .i64 (pre ++ r).length), (7, true, .int .i64 pre.length)] [] := by
  have hT : TabOk cfg (ctab [(68, trimC)]) := ctab_ok (ctab_cons c68 ctab_nil)
  intro r
  induction r with
  | nil =>
    intro pre hl
    refine t91b hT (ifP_intro (fun a => ?_) fun _ => ⟨_, ?_, rfl, rfl⟩)
    · simp at a
    · unfold big at hl; omega
  | cons x r ih =>
    intro pre hl
    have hlen : pre.length ≤ big := by simp at hl; omega
    have hin : inR (pre.length : Int) (pre ++ x :: r).length = true := inR_of (by omega) (by simp; omega)
    have next : valC x = true → ToEnd cfg 91 (bodyOf Tryd.f91) (RetIs Tryd.prog Tryd.f91 (.bool ((x :: r).all valC && (trB (pre ++ x :: r) == pre ++ x :: r)))) [.code [0, 1, 0, 1], .block 0, .code [1, 1]] .normal [(0, true, .str (pre ++ x :: r)), (6, true, .int .i64 (pre ++ x :: r).length), (7, true, .int .i64 (IntKind.wrap .i64 ((pre.length : Int) + 1)))] [] := fun hb => by
      rw [wrap_b hlen, List.all_cons, hb, Bool.true_and]
      have := ih (pre ++ [x]) (by simpa using hl)
      simpa using this
    have bad : ¬ valC x = true → AV.bool false = AV.bool ((x :: r).all valC && (trB (pre ++ x :: r) == pre ++ x :: r)) := fun hb => by
      rw [List.all_cons, eq_false_of_ne_true hb]; rfl
    rw [valC_nat] at next bad
    refine t91b hT (ifP_intro (fun _ => gAnd_intro hin ?_) fun a => by simp at a; omega)
    rw [at_pre]
    refine ifP_intro (fun b => ifP_intro (fun d => bad ?_) fun d => ifP_intro (fun e => bad ?_) fun e => next ?_) fun b => ifP_intro (fun e => bad ?_) fun e => next ?_ <;>
      simp only [decide_eq_true_eq, decide_eq_false_iff_not, bne_iff_ne, ne_eq, bne_eq_false_iff_eq, beq_iff_eq, beq_eq_false_iff_ne] at * <;> omega
theorem c91 : COk cfg 91 (strC valS) := by
  refine cok_pure pf91 fun vs h K ht => ?_
  obtain ⟨s, hl, rfl, hk⟩ := ht
  exact ⟨_, hk, t91a (ctab_ok (ctab_cons c68 ctab_nil)) (loop91 s [] hl)⟩
theorem c69 : COk cfg 69 (fldC mayF) := by
  refine cok_pure pf69 fun vs h K ht => ?_
  obtain ⟨a, b, ha, hb, rfl, hk⟩ := ht
  refine ⟨_, hk, t69 (ctab_ok (ctab_cons c90 (ctab_cons c91 ctab_nil))) ⟨a, ha, rfl, ifP_intro (fun d => ⟨b, hb, rfl, ?_⟩) fun d => ?_⟩⟩
  · unfold mayF tokS
    simp only [d, Bool.true_and]
  · unfold mayF tokS
    simp only [d, Bool.false_and]
theorem c70 : COk cfg 70 fldSC := by
  refine cok_pure pf70 fun vs h K ht => ?_
  obtain ⟨a, b, ha, hb, rfl, hk⟩ := ht
  unfold big at ha hb
  exact ⟨_, hk, t70 (ctab_ok ctab_nil) (gAnd_intro (decide_eq_true (by omega)) (gAnd_intro (decide_eq_true (by simp; omega)) rfl))⟩
def mayG (n : Nat) : Nat → List UInt8 → Bool
  | _, [] => true
  | i, c :: r => (valC c && !((decide (i = 0) || decide (i + 1 = n)) && isBl c)) && mayG n (i + 1) r
theorem mayG_iff (n : Nat) : ∀ (r : List UInt8) (i : Nat), mayG n i r = true ↔ ∀ (j : Nat) x, r[j]? = some x → valC x = true ∧ ((i + j = 0 ∨ i + j + 1 = n) → isBl x = false)
  | [], i => by simp [mayG]
  | c :: r, i => by
    rw [mayG, Bool.and_eq_true, mayG_iff n r (i + 1)]
    constructor
    · rintro ⟨h1, h2⟩ j x hx
      cases j with
      | zero =>
        simp only [List.getElem?_cons_zero, Option.some.injEq] at hx
        subst hx
        simp only [Bool.and_eq_true, Bool.not_eq_true', Bool.and_eq_false_iff, Bool.or_eq_false_iff, decide_eq_false_iff_not] at h1
        refine ⟨h1.1, fun h => ?_⟩
        rcases h1.2 with h3 | h3
        · omega
        · exact h3
      | succ j =>
        obtain ⟨q1, q2⟩ := h2 j x (by simpa using hx)
        exact ⟨q1, fun h => q2 (by omega)⟩
    · intro h
      refine ⟨?_, fun j x hx => ?_⟩
      · obtain ⟨q1, q2⟩ := h 0 c rfl
        rw [q1, Bool.true_and, Bool.not_eq_true', Bool.and_eq_false_iff]
        by_cases hi : i = 0 ∨ i + 1 = n
        · exact .inr (q2 (by omega))
        · left
          rw [Bool.or_eq_false_iff, decide_eq_false_iff_not, decide_eq_false_iff_not]
          omega
      · obtain ⟨q1, q2⟩ := h (j + 1) x (by simpa using hx)
        exact ⟨q1, fun h => q2 (by omega)⟩
theorem trB_edges {v : List UInt8} (hv : v ≠ []) : trB v = v ↔ (∀ x, v[0]? = some x → isBl x = false) ∧ ∀ x, v[v.length - 1]? = some x → isBl x = false := by
  have hl : 0 < v.length := List.length_pos_iff.2 hv
  constructor
  · intro h
    have hh : ∀ (w : List UInt8) x, (Lib.trimLeftS w [32, 9])[0]? = some x → isBl x = false := fun w x hx => by
      unfold Lib.trimLeftS at hx
      have := List.head?_dropWhile_not (fun b => [32, 9].contains b) w
      rw [List.head?_eq_getElem?, hx] at this
      simp only at this
      rw [← contains_bl]
      simpa using this
    refine ⟨fun x hx => hh _ x (by unfold trB Lib.trimS at h; rw [h]; exact hx), fun x hx => ?_⟩
    have h1 : (Lib.trimRightS v [32, 9]).length = v.length := by
      have a1 : (Lib.trimLeftS (Lib.trimRightS v [32, 9]) [32, 9]).length ≤ (Lib.trimRightS v [32, 9]).length := dropWhile_len _
      have a2 : Lib.trimLeftS (Lib.trimRightS v [32, 9]) [32, 9] = v := h
      have a3 : (Lib.trimRightS v [32, 9]).length ≤ v.length := by
        unfold Lib.trimRightS
        rw [List.length_reverse]
        exact Nat.le_trans (dropWhile_len _) (by simp)
      rw [a2] at a1
      omega
    have h2 : v.reverse.dropWhile (fun b => [32, 9].contains b) = v.reverse := by
      have a1 : (v.reverse.dropWhile (fun b => [32, 9].contains b)).length = v.reverse.length := by
        unfold Lib.trimRightS at h1
        rw [List.length_reverse] at h1
        rw [List.length_reverse]
        exact h1
      exact (List.dropWhile_suffix _).eq_of_length a1
    have := List.head?_dropWhile_not (fun b => [32, 9].contains b) v.reverse
    rw [h2, List.head?_reverse, List.getLast?_eq_getElem?, hx] at this
    simp only at this
    rw [← contains_bl]
    simpa using this
  · rintro ⟨h1, h2⟩
    rw [trB_cut (s := v) (a := 0) (b := v.length) (Nat.zero_le _) (Nat.le_refl _) (fun j x hj _ => by omega) (fun j x hj hx => by rw [List.getElem?_eq_none hj] at hx; cases hx) (.inr ⟨h1, h2⟩)]
    simp
theorem mayG_val (v : List UInt8) : mayG v.length 0 v = valS v := by
  rw [Bool.eq_iff_iff, mayG_iff]
  unfold valS
  rw [Bool.and_eq_true, List.all_eq_true, beq_iff_eq]
  by_cases hv : v = []
  · subst hv; simp; rfl
  have hl : 0 < v.length := List.length_pos_iff.2 hv
  rw [trB_edges hv]
  constructor
  · intro h
    refine ⟨fun x hx => ?_, fun x hx => (h 0 x hx).2 (by omega), fun x hx => (h _ x hx).2 (by omega)⟩
    obtain ⟨j, hj⟩ := List.mem_iff_getElem?.1 hx
    exact (h j x hj).1
  · rintro ⟨h1, h2, h3⟩ j x hx
    refine ⟨h1 x (List.mem_of_getElem? hx), fun hj => ?_⟩
    rcases hj with hj | hj
    · have : j = 0 := by omega
      subst this; exact h2 x hx
    · have : j = v.length - 1 := by omega
      subst this; exact h3 x hx
theorem loop93 (a : List UInt8) {b : List UInt8} (ha : a.length ≤ big) : ∀ (r pre : List UInt8), (pre ++ r).length ≤ big →
    ToEnd cfg 93 (bodyOf Tryd.f93) (RetIs Tryd.prog Tryd.f93 (.bool (tokenB a && mayG (pre ++ r).length pre.length r))) [.code [0, 1, 0, 1, 1], .block 0, .code [1, 1, 1]] .normal [(1, true, .ptr 0 0), (3, true, .str (pre ++ r)), (4, true, .int .i64 pre.length)] [.mem 38 [.str a, .str b]] := by
  have hT : TabOk cfg (ctab [(117, strC tokenB)]) := ctab_ok (ctab_cons c117 ctab_nil)
  intro r
  induction r with
  | nil =>
    intro pre hl
    refine t93b hT (ifP_intro (fun a => ?_) fun _ => ⟨_, ha, rfl, ?_⟩)
    · simp at a
    · rw [mayG, Bool.and_true]
  | cons x r ih =>
    intro pre hl
    have hlen : pre.length ≤ big := by simp at hl; omega
    have hlen2 : (pre ++ x :: r).length = pre.length + r.length + 1 := by simp; omega
    have hin : inR (pre.length : Int) (pre ++ x :: r).length = true := inR_of (by omega) (by simp; omega)
    have hw : IntKind.wrap .i64 (((pre ++ x :: r).length : Int) - 1) = ((pre.length + r.length : Nat) : Int) := by unfold big at hl; rw [hlen2, wrap_in (by omega) (by omega)]; omega
    have key : (valC x && !((decide (pre.length = 0) || decide (pre.length + 1 = (pre ++ x :: r).length)) && isBl x)) = true ↔ ¬ ((x.toNat < 32 ∧ x.toNat ≠ 9) ∨ x.toNat = 127) ∧ ¬ ((pre.length = 0 ∨ r.length = 0) ∧ (x.toNat = 32 ∨ x.toNat = 9)) := by
      rw [Bool.and_eq_true, valC_nat, Bool.not_eq_true', ← Bool.not_eq_true, Bool.and_eq_true, isBl_nat, Bool.or_eq_true, decide_eq_true_eq, decide_eq_true_eq, hlen2]
      have : pre.length + 1 = pre.length + r.length + 1 ↔ r.length = 0 := by omega
      rw [this]
    have next : (valC x && !((decide (pre.length = 0) || decide (pre.length + 1 = (pre ++ x :: r).length)) && isBl x)) = true → ToEnd cfg 93 (bodyOf Tryd.f93) (RetIs Tryd.prog Tryd.f93 (.bool (tokenB a && mayG (pre ++ x :: r).length pre.length (x :: r)))) [.code [0, 1, 0, 1, 1], .block 0, .code [1, 1, 1]] .normal [(1, true, .ptr 0 0), (3, true, .str (pre ++ x :: r)), (4, true, .int .i64 (IntKind.wrap .i64 ((pre.length : Int) + 1)))] [.mem 38 [.str a, .str b]] := fun hb => by
      rw [wrap_b hlen, mayG, hb, Bool.true_and]
      have := ih (pre ++ [x]) (by simpa using hl)
      simpa using this
    have bad : ¬ (valC x && !((decide (pre.length = 0) || decide (pre.length + 1 = (pre ++ x :: r).length)) && isBl x)) = true → AV.bool false = AV.bool (tokenB a && mayG (pre ++ x :: r).length pre.length (x :: r)) := fun hb => by
      rw [mayG, eq_false_of_ne_true hb, Bool.false_and, Bool.and_false]
    rw [key] at next bad
    refine t93b hT (ifP_intro (fun _ => gAnd_intro hin ?_) fun a => by simp at a; omega)
    rw [at_pre, hw]
    clear ih key
    repeat' first
      | refine gAnd_intro hin ?_
      | refine ifP_intro (fun _ => ?_) fun _ => ?_
    all_goals first
      | refine next ?_
      | refine bad ?_
    all_goals (clear next bad hin hw; simp only [decide_eq_true_eq, decide_eq_false_iff_not, bne_iff_ne, ne_eq, bne_eq_false_iff_eq, beq_iff_eq, beq_eq_false_iff_ne] at *; omega)
theorem c93 : COk cfg 93 (fldC mayF) := by
  refine cok_pure pf93 fun vs h K ht => ?_
  obtain ⟨a, b, ha, hb, rfl, hk⟩ := ht
  have := loop93 (b := b) a ha b [] hb
  refine ⟨_, hk, t93a (ctab_ok (ctab_cons c117 ctab_nil)) ?_⟩
  have e : mayF ⟨a, b⟩ = (tokenB a && mayG ([] ++ b).length ([] : List UInt8).length b) := by
    unfold mayF tokS
    rw [List.nil_append, List.length_nil, mayG_val]
  rw [e]
  exact this
theorem c94 : COk cfg 94 (fldC longF) := by
  refine cok_pure pf94 fun vs h K ht => ?_
  obtain ⟨a, b, ha, hb, rfl, hk⟩ := ht
  unfold big at ha hb
  refine ⟨_, hk, t94 (ctab_ok ctab_nil) ?_⟩
  rw [wrap_in (n := (a.length : Int) + 2) (by omega) (by omega), wrap_in (by omega) (by omega)]
  refine bool_av ?_
  unfold longF
  rw [decide_eq_true_eq, decide_eq_true_eq]
  simp only
  omega
end Go.Proofs.YtnncfdlpogjlkaaDoor
end

section
namespace Go.Proofs.YtnncfdlpogjlkaaDoor
open Go.Ai Go
set_option linter.unusedSimpArgs false
set_option linter.unusedVariables false
set_option linter.unnecessarySimpa false
set_option maxRecDepth 100000

/-! The field of a line -/
theorem fnd_one {x : UInt8} : ∀ (pre r : List UInt8), (∀ c ∈ pre, c ≠ x) → fnd [x] (pre ++ x :: r) = some pre.length
  | [], r, _ => by simp [fnd]
  | c :: pre, r, h => by
    have hc := h c (by simp)
    have : [x].isPrefixOf (c :: (pre ++ x :: r)) = false := by
      refine eq_false_of_ne_true fun hp => hc ?_
      simp at hp
      exact hp.symm
    rw [List.cons_append, fnd, this, if_neg (by simp), fnd_one pre r fun d hd => h d (by simp [hd])]
    rfl
theorem fnd_one_no {x : UInt8} : ∀ (s : List UInt8), (∀ c ∈ s, c ≠ x) → fnd [x] s = none
  | [], _ => by simp [fnd]
  | c :: s, h => by
    have hc := h c (by simp)
    have : [x].isPrefixOf (c :: s) = false := by
      refine eq_false_of_ne_true fun hp => hc ?_
      simp at hp
      exact hp.symm
    rw [fnd, this, if_neg (by simp), fnd_one_no s fun d hd => h d (by simp [hd])]
    rfl
def oneV (s : List UInt8) : AV := .tup [.agg [.str (oneF s).1.name, .str (oneF s).1.value], .int .i64 (oneF s).2]
theorem tab72 : TabOk cfg (ctab [(92, trimC), (93, fldC mayF), (94, fldC longF)]) := ctab_ok (ctab_cons c92 (ctab_cons c93 (ctab_cons c94 ctab_nil)))
theorem loop72 : ∀ (r pre : List UInt8), (pre ++ r).length ≤ 2048 → (∀ c ∈ pre, c ≠ 58) →
    ToEnd cfg 72 (bodyOf Tryd.f72) (RetIs Tryd.prog Tryd.f72 (oneV (pre ++ r))) [.code [0, 0, 1, 1, 1], .block 0, .code [1, 1, 1, 1]] .normal [(0, true, .str (pre ++ r)), (2, true, .ptr 0 0), (4, true, .int .i64 pre.length)] [.mem 38 [.str [], .str []]] := by
  intro r
  induction r with
  | nil =>
    intro pre hl hp
    refine t72b tab72 (ifP_intro (fun a => by simp at a) fun _ => ifP_intro (fun _ => ?_) fun a => by simp at a)
    have : fnd [58] (pre ++ []) = none := by rw [List.append_nil]; exact fnd_one_no pre hp
    unfold oneV oneF
    rw [if_neg (by omega), this]
  | cons x r ih =>
    intro pre hl hp
    have hlen : pre.length ≤ big := by simp at hl; unfold big; omega
    have hin : inR (pre.length : Int) (pre ++ x :: r).length = true := inR_of (by omega) (by simp; omega)
    refine t72b tab72 (ifP_intro (fun _ => gAnd_intro hin ?_) fun a => by simp at a; omega)
    rw [at_pre]
    refine ifP_intro (fun b => ?_) fun b => ifP_intro (fun a => by simp at a; omega) fun _ => ?_
    · have hx : x ≠ 58 := unq 58 rfl b
      rw [wrap_b hlen]
      have := ih (pre ++ [x]) (by simpa using hl) (fun c hc => by
        rcases List.mem_append.1 hc with h | h
        · exact hp c h
        · rw [List.mem_singleton] at h; subst h; exact hx)
      simpa using this
    · have hx : x = 58 := unq' 58 rfl b
      subst hx
      have hf := fnd_one pre r hp
      rw [wrap_b hlen]
      have e1 : cutL (pre ++ 58 :: r) none (some ((pre.length : Nat) : Int)) = (pre ++ 58 :: r).take pre.length := by simp [cutL]
      have e2 : cutL (pre ++ 58 :: r) (some ((pre.length + 1 : Nat) : Int)) none = (pre ++ 58 :: r).drop (pre.length + 1) := by
        simp only [cutL, Int.toNat_natCast]
      have hl1 : ((pre ++ 58 :: r).take pre.length).length ≤ big := by rw [List.length_take]; omega
      have hl2 : ((pre ++ 58 :: r).drop (pre.length + 1)).length ≤ 2048 := by rw [List.length_drop]; omega
      have hl3 : (trB ((pre ++ 58 :: r).drop (pre.length + 1))).length ≤ big := Nat.le_trans (trB_len _) (by unfold big; omega)
      rw [e1, e2]
      refine gAnd_intro (by simp [cutOb]; omega) (gAnd_intro (by simp [cutOb]; omega) ⟨_, by omega, rfl, _, _, hl1, hl3, rfl, ?_⟩)
      unfold oneV oneF
      rw [if_neg (by omega), hf]
      simp only
      refine ifP_intro (fun a => ?_) fun a => ⟨_, _, hl1, hl3, rfl, ifP_intro (fun d => ?_) fun d => ?_⟩
      · rw [if_neg (by simpa using a)]
      · rw [if_pos (by simpa using a), if_pos d]
      · rw [if_pos (by simpa using a), if_neg (by rw [d]; exact Bool.false_ne_true)]
theorem c72 : COk cfg 72 oneC := by
  refine cok_pure pf72 fun vs h K ht => ?_
  obtain ⟨s, hl, rfl, hk⟩ := ht
  refine ⟨_, hk, t72a tab72 (ifP_intro (fun a => ?_) fun a => ?_)⟩
  · have : 2048 < s.length := by simp only [gt_iff_lt, decide_eq_true_eq] at a; omega
    unfold oneF
    rw [if_pos this]
  · have : ¬ 2048 < s.length := by simp only [gt_iff_lt, decide_eq_false_iff_not] at a; omega
    exact loop72 s [] (by simp; omega) (by simp)

/-! Lists of fields -/
theorem parF_fuel : ∀ (f g k : Nat) (s : List UInt8), s.length < f → s.length < g → parF f k s = parF g k s
  | 0, g, k, s, h, _ => by omega
  | f + 1, 0, k, s, _, h => by omega
  | f + 1, g + 1, k, s, h1, h2 => by
    rw [parF, parF]
    by_cases hs : s = []
    · rw [if_pos hs, if_pos hs]
    rw [if_neg hs, if_neg hs]
    cases hf : fnd crlf s with
    | none => rfl
    | some i =>
      have h3 := (fnd_some hf).2
      have h4 : (s.drop (i + 2)).length < f := by simp [crlf] at h3 ⊢; omega
      have h5 : (s.drop (i + 2)).length < g := by simp [crlf] at h3 ⊢; omega
      simp only
      rw [parF_fuel f g (k + 1) _ h4 h5]
def parS (k : Nat) (s : List UInt8) : List Fld × Int := parF (s.length + 1) k s
theorem parS_nil (k : Nat) : parS k [] = ([], 0) := by unfold parS; rw [parF, if_pos rfl]
theorem parS_none {k : Nat} {s : List UInt8} (hs : s ≠ []) (hf : fnd crlf s = none) : parS k s = ([], 4) := by unfold parS; rw [parF, if_neg hs, hf]
theorem parS_some {k i : Nat} {s : List UInt8} (hf : fnd crlf s = some i) : parS k s = if 64 ≤ k then ([], 3) else if (oneF (s.take i)).2 ≠ 0 then ([], (oneF (s.take i)).2) else
    if (parS (k + 1) (s.drop (i + 2))).2 ≠ 0 then ([], (parS (k + 1) (s.drop (i + 2))).2) else ((oneF (s.take i)).1 :: (parS (k + 1) (s.drop (i + 2))).1, 0) := by
  have h3 := (fnd_some hf).2
  have hs : s ≠ [] := by rintro rfl; simp [crlf] at h3
  unfold parS
  rw [parF, if_neg hs, hf]
  simp only
  rw [parF_fuel s.length ((s.drop (i + 2)).length + 1) (k + 1) _ (by simp [crlf] at h3 ⊢; omega) (by omega)]
def accV (acc : List Fld) (p : List Fld × Int) : AV := .tup [.sl 2 (encFs (if p.2 = 0 then acc ++ p.1 else [])) none, .int .i64 p.2]
theorem accV_err {acc : List Fld} {p : List Fld × Int} {e : Int} (h : p = ([], e)) (he : e ≠ 0) : AV.tup [.sl 2 [] none, .int .i64 e] = accV acc p := by
  subst h
  unfold accV
  rw [if_neg he]; rfl
theorem accV_nil (acc : List Fld) : AV.tup [.sl 2 (encFs acc) none, .int .i64 0] = accV acc ([], 0) := by
  unfold accV
  rw [if_pos rfl, List.append_nil]
/-- A field more. -/
theorem accV_more {acc : List Fld} {i : Nat} {s : List UInt8} (hk : ¬ 64 ≤ acc.length) (hf : fnd crlf s = some i) (h1 : (oneF (s.take i)).2 = 0) : accV acc (parS acc.length s) = accV (acc ++ [(oneF (s.take i)).1]) (parS (acc ++ [(oneF (s.take i)).1]).length (s.drop (i + 2))) := by
  rw [parS_some hf, if_neg hk, if_neg (by rw [h1]; simp), List.length_append, List.length_singleton]
  by_cases h2 : (parS (acc.length + 1) (s.drop (i + 2))).2 = 0
  · rw [if_neg (by rw [h2]; simp)]
    unfold accV
    rw [if_pos rfl, if_pos h2, h2, List.append_assoc]; rfl
  · rw [if_pos h2]
    unfold accV
    rw [if_neg h2, if_neg h2]
theorem tab44 : TabOk cfg (ctab [(65, cutGC), (68, trimC), (69, fldC mayF), (70, fldSC)]) := ctab_ok (ctab_cons c65 (ctab_cons c68 (ctab_cons c69 (ctab_cons c70 ctab_nil))))
theorem encFs_one (acc : List Fld) (a b : List UInt8) : encFs acc ++ [[AV.str a, AV.str b]] = encFs (acc ++ [⟨a, b⟩]) := by simp [encFs, encF]
theorem loop44 : ∀ (m : Nat) (s : List UInt8) (acc : List Fld), s.length ≤ m → s.length ≤ big → acc.length ≤ 64 →
    ToEnd cfg 44 (bodyOf Tryd.f44) (RetIs Tryd.prog Tryd.f44 (accV acc (parS acc.length s))) [.code [0, 0, 1], .block 0, .code [1, 1]] .normal [(0, true, .str s), (2, true, .sl 2 (encFs acc) (some 0))] [.grow acc.length 2 38] := by
  intro m
  induction m with
  | zero =>
    intro s acc hm hl ha
    obtain rfl : s = [] := List.eq_nil_of_length_eq_zero (by omega)
    refine t44b tab44 (ifP_intro (fun b => by simp at b) fun _ => ?_)
    rw [stripss_encFs, parS_nil]; exact accV_nil acc
  | succ m ih =>
    intro s acc hm hl ha
    refine t44b tab44 (ifP_intro (fun b => ?_) fun b => ?_)
    · have hs : s ≠ [] := by simpa using b
      refine ⟨s, [13, 10], by unfold big at hl; omega, rfl, ?_⟩
      have hc : cutS s [13, 10] = match fnd crlf s with | some n => (s.take n, s.drop (n + 2), true) | none => (s, [], false) := cutS_fnd s crlf
      rw [hc]
      cases hf : fnd crlf s with
      | none =>
        refine ifP_intro (fun _ => accV_err (parS_none hs hf) (by omega)) fun d => by simp at d
      | some i =>
        have h3 := (fnd_some hf).2
        have h3 : i + 2 ≤ s.length := by simpa [crlf] using h3
        have htk : (s.take i).length = i := by simp; omega
        simp only
        refine ifP_intro (fun d => by simp at d) fun _ => ifP_intro (fun d => ?_) fun d => ifP_intro (fun e => ?_) fun e => ?_
        · have hk : 64 ≤ acc.length := by rw [encFs_len] at d; simp at d; omega
          exact accV_err (by rw [parS_some hf, if_pos hk]) (by omega)
        · have hk : ¬ 64 ≤ acc.length := by rw [encFs_len] at d; simp at d; omega
          have he : oneF (s.take i) = (⟨[], []⟩, 3) := by
            unfold oneF
            simp only [gt_iff_lt, decide_eq_true_eq] at e
            rw [if_pos (by omega)]
          exact accV_err (by rw [parS_some hf, if_neg hk, he, if_pos (by simp)]) (by omega)
        · have hk : ¬ 64 ≤ acc.length := by rw [encFs_len] at d; simp at d; omega
          have h2 : ¬ 2048 < (s.take i).length := by simp only [gt_iff_lt, decide_eq_false_iff_not] at e; omega
          refine ⟨s.take i, [58], by omega, rfl, ?_⟩
          have hc2 : cutS (s.take i) [58] = match fnd [58] (s.take i) with | some n => ((s.take i).take n, (s.take i).drop (n + 1), true) | none => (s.take i, [], false) := cutS_fnd (s.take i) [58]
          rw [hc2]
          cases hf2 : fnd [58] (s.take i) with
          | none =>
            have he : oneF (s.take i) = (⟨[], []⟩, 4) := by
              unfold oneF
              rw [if_neg h2, hf2]
            refine ⟨[], by simp, rfl, ifP_intro (fun _ => ?_) fun g => by simp at g⟩
            exact accV_err (by rw [parS_some hf, if_neg hk, he, if_pos (by simp)]) (by omega)
          | some j =>
            simp only
            have hl1 : ((s.take i).take j).length ≤ big := by rw [List.length_take]; unfold big; omega
            have hl2 : ((s.take i).drop (j + 1)).length ≤ 2048 := by rw [List.length_drop]; omega
            have hl3 : (trB ((s.take i).drop (j + 1))).length ≤ big := Nat.le_trans (trB_len _) (by unfold big; omega)
            refine ⟨_, by omega, rfl, ifP_intro (fun g => by simp at g) fun _ => ⟨_, _, hl1, hl3, rfl, ifP_intro (fun g => ?_) fun g => ⟨_, _, hl1, hl3, rfl, ifP_intro (fun q => ?_) fun q => ?_⟩⟩⟩
            · have he : oneF (s.take i) = (⟨[], []⟩, 4) := by
                unfold oneF
                rw [if_neg h2, hf2]
                simp only
                rw [if_neg (by simpa using g)]
              exact accV_err (by rw [parS_some hf, if_neg hk, he, if_pos (by simp)]) (by omega)
            · have he : oneF (s.take i) = (⟨[], []⟩, 3) := by
                unfold oneF
                rw [if_neg h2, hf2]
                simp only
                rw [if_pos (by simpa using g), if_pos (by unfold longF; simp at q ⊢; omega)]
              exact accV_err (by rw [parS_some hf, if_neg hk, he, if_pos (by simp)]) (by omega)
            · have he : oneF (s.take i) = (⟨(s.take i).take j, trB ((s.take i).drop (j + 1))⟩, 0) := by
                unfold oneF
                rw [if_neg h2, hf2]
                simp only
                rw [if_pos (by simpa using g), if_neg (by unfold longF; simp at q ⊢; omega)]
              refine gAnd_intro ?_ (gAnd_intro ?_ ?_)
              · rw [encFs_len, tag_ok rfl, decide_eq_true (by omega)]; rfl
              · rw [encFs_one, low_encFs]; rfl
              · rw [accV_more hk hf (by rw [he]), encFs_one, he, encFs_len]
                have := ih (s.drop (i + 2)) (acc ++ [⟨(s.take i).take j, trB ((s.take i).drop (j + 1))⟩]) (by rw [List.length_drop]; omega) (by rw [List.length_drop]; omega) (by simp; omega)
                simpa using this
    · have hs : s = [] := by simpa using b
      subst hs
      rw [stripss_encFs, parS_nil]; exact accV_nil acc
theorem accV_parse (s : List UInt8) : accV [] (parS 0 s) = .tup [.sl 2 (encFs (parseF s).1) none, .int .i64 (parseF s).2] := by
  have e : parS 0 s = parseF s := rfl
  rw [e]
  unfold accV
  by_cases h : (parseF s).2 = 0
  · rw [if_pos h, List.nil_append]
  · rw [if_neg h]
    have : (parseF s).1 = [] := by
      revert h
      unfold parseF
      rw [parF]
      intro h
      split at h
      · exact absurd rfl h
      · rename_i hs
        rw [if_neg hs]
        cases hf : fnd crlf s with
        | none => rfl
        | some i =>
          rw [hf] at h
          simp only at h ⊢
          repeat' split
          all_goals first | rfl | (simp_all)
    rw [this]
theorem c44 : COk cfg 44 parseC := by
  refine cok_pure pf44 fun vs h K ht => ?_
  obtain ⟨s, hl, rfl, hk⟩ := ht
  rw [← accV_parse] at hk
  exact ⟨_, hk, t44a tab44 (loop44 s.length s [] (Nat.le_refl _) hl (by simp))⟩

/-! Places where a line ends -/
theorem pre_at {s : List UInt8} {i : Nat} (h : i + 1 < s.length) : crlf.isPrefixOf (s.drop i) = true ↔ s.getD i 0 = 13 ∧ s.getD (i + 1) 0 = 10 := by
  have e : s.drop i = s[i] :: s[i + 1] :: s.drop (i + 1 + 1) := by
    rw [← List.drop_eq_getElem_cons h, ← List.drop_eq_getElem_cons (by omega)]
  rw [e]
  simp only [crlf, List.isPrefixOf, Bool.and_true, Bool.and_eq_true, beq_iff_eq, List.getD_eq_getElem?_getD, List.getElem?_eq_getElem h, List.getElem?_eq_getElem (show i < s.length by omega), Option.getD_some]
  constructor
  · rintro ⟨a, b⟩; exact ⟨a.symm, b.symm⟩
  · rintro ⟨a, b⟩; exact ⟨a.symm, b.symm⟩
theorem pre_end {s : List UInt8} {i : Nat} (h : ¬ i + 1 < s.length) : crlf.isPrefixOf (s.drop i) = false := by
  refine eq_false_of_ne_true fun hc => ?_
  have := (List.isPrefixOf_iff_prefix.1 hc).length_le
  simp [crlf] at this
  omega
theorem c47 : COk cfg 47 endsC := by
  refine cok_pure pf47 fun vs h K ht => ?_
  obtain ⟨s, n, hl, hn, rfl, hk⟩ := ht
  refine ⟨_, hk, t47 (ctab_ok ctab_nil) ?_⟩
  rw [wrap_n hn]
  refine ifP_intro (fun a => ?_) fun a => ?_
  · have ha : n + 1 < s.length := by simp only [decide_eq_true_eq] at a; omega
    have hp := pre_at ha
    have e1 : List.getD s (Int.toNat (n : Int)) 0 = s.getD n 0 := by simp
    have e2 : List.getD s (Int.toNat ((n + 1 : Nat) : Int)) 0 = s.getD (n + 1) 0 := by simp only [Int.toNat_natCast]
    rw [e1, e2]
    refine gAnd_intro (inR_nat (by omega)) (ifP_intro (fun b => gAnd_intro (inR_nat ha) (bool_av ?_)) fun b => ?_)
    · unfold endsB
      rw [hp]
      have h1 := ueq 13 rfl b
      constructor
      · intro d; exact ⟨h1, ueq 10 rfl d⟩
      · rintro ⟨_, d⟩; rw [d]; rfl
    · unfold endsB
      rw [eq_false_of_ne_true (fun hc => une 13 rfl b (hp.1 hc).1)]
  · have ha : ¬ n + 1 < s.length := by simp only [decide_eq_false_iff_not] at a; omega
    unfold endsB
    rw [pre_end ha]

theorem tab49 : TabOk cfg (ctab [(72, oneC)]) := ctab_ok (ctab_cons c72 ctab_nil)
theorem loop49 {s : List UInt8} (hl : s.length ≤ big) : ∀ (m i fr : Nat) (acc : List Fld) (g : Nat), i + m = s.length → fr ≤ s.length → acc.length ≤ 64 → (∀ j, fr ≤ j → j < i → crlf.isPrefixOf (s.drop j) = false) →
    ToEnd cfg 49 (bodyOf Tryd.f49) (RetIs Tryd.prog Tryd.f49 (accV acc (parS acc.length (s.drop fr)))) [.code [0, 1, 0, 1, 1, 1], .block 0, .code [1, 1, 1, 1]] .normal
      [(0, true, .str s), (4, true, .sl 2 (encFs acc) (some 1)), (5, true, .int .i64 fr), (6, true, .int .i64 i)] [.grow g 2 38, .grow acc.length 2 38] := by
  intro m
  have fin : ∀ (i fr : Nat) (acc : List Fld) (g : Nat), ¬ i + 1 < s.length → fr ≤ s.length → (∀ j, fr ≤ j → j < i → crlf.isPrefixOf (s.drop j) = false) →
      ifP (decide ((fr : Int) < (s.length : Int))) (AV.tup [.sl 2 [] none, .int .i64 4] = accV acc (parS acc.length (s.drop fr))) (AV.tup [.sl 2 (stripss 0 [.grow g 2 38, .grow acc.length 2 38] (encFs acc)) none, .int .i64 0] = accV acc (parS acc.length (s.drop fr))) := by
    intro i fr acc g hi hfr hno
    refine ifP_intro (fun a => ?_) fun a => ?_
    · have ha : fr < s.length := by simp only [decide_eq_true_eq] at a; omega
      refine accV_err (parS_none (fun h => ?_) (fnd_no (fun j hj => ?_) crlf_ne)) (by omega)
      · have := congrArg List.length h
        simp at this; omega
      · rw [List.drop_drop]
        rcases Nat.lt_or_ge (fr + j) i with h | h
        · exact hno _ (by omega) h
        · exact pre_end (by omega)
    · have ha : s.length ≤ fr := by simp only [decide_eq_false_iff_not] at a; omega
      rw [stripss_encFs, List.drop_eq_nil_of_le ha, parS_nil]
      exact accV_nil acc
  induction m with
  | zero =>
    intro i fr acc g hi hfr ha hno
    have hib : i ≤ big := by omega
    refine t49b tab49 ?_
    rw [wrap_b hib]
    refine ifP_intro (fun a => ?_) fun a => fin i fr acc g (by omega) hfr hno
    simp only [decide_eq_true_eq] at a
    omega
  | succ m ih =>
    intro i fr acc g hi hfr ha hno
    have hib : i ≤ big := by omega
    refine t49b tab49 ?_
    rw [wrap_b hib]
    refine ifP_intro (fun a => ?_) fun a => fin i fr acc g (by simp only [decide_eq_false_iff_not] at a; omega) hfr hno
    have hi1 : i + 1 < s.length := by simp only [decide_eq_true_eq] at a; omega
    have e1 : List.getD s (Int.toNat (i : Int)) 0 = s.getD i 0 := by simp
    have e2 : List.getD s (Int.toNat ((i + 1 : Nat) : Int)) 0 = s.getD (i + 1) 0 := by simp only [Int.toNat_natCast]
    have hp := pre_at hi1
    rw [e1, e2]
    have skip := fun (h : fr ≤ i → crlf.isPrefixOf (s.drop i) = false) => ih (i + 1) fr acc g (by omega) hfr ha (fun j h1 h2 => by
      rcases Nat.lt_or_ge j i with h3 | h3
      · exact hno j h1 h3
      · have : j = i := by omega
        subst this; exact h h1)
    refine ifP_intro (fun b => gAnd_intro (by rw [low_encFs]; rfl) ?_) fun b => gAnd_intro (inR_nat (by omega)) (ifP_intro (fun c => gAnd_intro (by rw [low_encFs]; rfl) ?_) fun c => gAnd_intro (inR_nat hi1) (ifP_intro (fun d => gAnd_intro (by rw [low_encFs]; rfl) ?_) fun d => ?_))
    · simp only [decide_eq_true_eq] at b
      exact skip (fun h => by omega)
    · exact skip (fun _ => eq_false_of_ne_true fun hc => unq 13 rfl c (hp.1 hc).1)
    · exact skip (fun _ => eq_false_of_ne_true fun hc => unq 10 rfl d (hp.1 hc).2)
    · have hfi : fr ≤ i := by simp only [decide_eq_false_iff_not] at b; omega
      have hat := hp.2 ⟨unq' 13 rfl c, unq' 10 rfl d⟩
      have hf : fnd crlf (s.drop fr) = some (i - fr) := fnd_of (by rw [List.drop_drop, show fr + (i - fr) = i by omega]; exact hat) (fun j hj => by rw [List.drop_drop]; exact hno _ (by omega) (by omega)) crlf_ne
      have hcut : cutL s (some (fr : Int)) (some (i : Int)) = (s.drop fr).take (i - fr) := by
        simp only [cutL, Int.toNat_natCast]
        rw [List.drop_take]
      have hdr : (s.drop fr).drop (i - fr + 2) = s.drop (i + 2) := by rw [List.drop_drop]; congr 1; omega
      refine ifP_intro (fun q => ?_) fun q => gAnd_intro (by simp [cutOb]; omega) ⟨_, by rw [hcut, List.length_take, List.length_drop]; unfold big at hl; omega, rfl, ?_⟩
      · have hk : 64 ≤ acc.length := by rw [encFs_len] at q; simp at q; omega
        exact accV_err (by rw [parS_some hf, if_pos hk]) (by omega)
      · have hk : ¬ 64 ≤ acc.length := by rw [encFs_len] at q; simp at q; omega
        rw [hcut]
        refine ifP_intro (fun z => ?_) fun z => ?_
        · have hz : (oneF ((s.drop fr).take (i - fr))).2 ≠ 0 := ne_of_bne z
          exact accV_err (by rw [parS_some hf, if_neg hk, if_pos hz]) hz
        · have hz : (oneF ((s.drop fr).take (i - fr))).2 = 0 := eq_of_bne z
          have hw : IntKind.wrap .i64 ((i : Int) + 2) = ((i + 2 : Nat) : Int) := by unfold big at hib; rw [wrap_in (by omega) (by omega)]; omega
          refine gAnd_intro ?_ (gAnd_intro ?_ ?_)
          · rw [encFs_len, tag_ok rfl, decide_eq_true (by omega)]; rfl
          · rw [encFs_one, low_encFs]; rfl
          · rw [accV_more hk hf hz, encFs_one, encFs_len, hw, hdr]
            have := ih (i + 1) (i + 2) (acc ++ [(oneF ((s.drop fr).take (i - fr))).1]) g (by omega) (by omega) (by simp; omega) (fun j h1 h2 => by omega)
            simpa using this
theorem c49 : COk cfg 49 parseC := by
  refine cok_pure pf49 fun vs h K ht => ?_
  obtain ⟨s, hl, rfl, hk⟩ := ht
  rw [← accV_parse] at hk
  exact ⟨_, hk, t49a tab49 (loop49 hl s.length 0 0 [] 0 (by omega) (Nat.zero_le _) (by simp) (fun j _ h => by omega))⟩

/-! Digits -/
def hexI (n : Int) : Int := if 48 ≤ n ∧ n ≤ 57 then n - 48 else if 97 ≤ n ∧ n ≤ 102 then n - 87 else if 65 ≤ n ∧ n ≤ 70 then n - 55 else -1
theorem hexI_of (c : UInt8) : (if hexB c = true then ((hexD c : Nat) : Int) else -1) = hexI c.toNat := by
  unfold hexB hexD hexI
  simp only [Bool.or_eq_true, Bool.and_eq_true, decide_eq_true_eq]
  have := c.toNat_lt
  repeat' split
  all_goals omega
theorem c71 : COk cfg 71 hexDC := by
  refine cok_pure pf71 fun vs h K ht => ?_
  obtain ⟨c, rfl, hk⟩ := ht
  refine ⟨_, hk, t71 (ctab_ok ctab_nil) ?_⟩
  rw [hexI_of]
  have hc := c.toNat_lt
  repeat' refine ifP_intro (fun _ => ?_) fun _ => ?_
  all_goals
    simp only [ge_iff_le, decide_eq_true_eq, decide_eq_false_iff_not] at *
    congr 1
    unfold hexI
    (try simp only [IntKind.wrap_u8, IntKind.wrap_i64])
    repeat' split
    all_goals omega
end Go.Proofs.YtnncfdlpogjlkaaDoor
end
