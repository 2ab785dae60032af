/-
  Runs of functions of start lines, printed by a home tool; each is the kernel's word.
  Start lines: bytes, tokens, sorts, prefixes: the functions keep to their contracts.
  Start lines: sorts of bytes, prefixes, versions, what is put: the functions keep to their contracts.
-/
import Derived.Test.YtahojaolkehojaaDoorCfg
import Derived.Test.YtahojaolkehojaaDoorJLa
section
namespace Go.Proofs.YtahojaolkehojaaDoor
open Go.Ai Go
set_option maxRecDepth 100000
set_option linter.unusedVariables false
theorem t41 {v : AV} {c : Int} (hT : TabOk cfg (ctab [])) (H :
    ifP (decide (c ≥ 48)) (AV.bool (decide (c ≤ 57)) = v) (AV.bool false = v)) :
    ToEnd cfg 41 (bodyOf Tryd.f41) (RetIs Tryd.prog Tryd.f41 v) ([.code []]) .normal ([(0, true, .int .u8 c)]) ([]) := by
  have e : unr cfg 41 (bodyOf Tryd.f41) (ctab []) ⟨[], []⟩ (RetIs Tryd.prog Tryd.f41 v) 100000 ([.code []]) .normal ([(0, true, .int .u8 c)]) ([]) =
    (ifP (decide (c ≥ 48)) (AV.bool (decide (c ≤ 57)) = v) (AV.bool false = v)) := by kernel_rfl
  exact unr_ok hT 100000 _ _ _ _ (e.mpr H)

theorem t33 {v : AV} {c : Int} (hT : TabOk cfg (ctab [])) (H :
    ifP (decide (c ≥ 48)) (AV.bool (decide (c ≤ 57)) = v) (AV.bool false = v)) :
    ToEnd cfg 33 (bodyOf Tryd.f33) (RetIs Tryd.prog Tryd.f33 v) ([.code []]) .normal ([(0, true, .int .u8 c)]) ([]) := by
  have e : unr cfg 33 (bodyOf Tryd.f33) (ctab []) ⟨[], []⟩ (RetIs Tryd.prog Tryd.f33 v) 100000 ([.code []]) .normal ([(0, true, .int .u8 c)]) ([]) =
    (ifP (decide (c ≥ 48)) (AV.bool (decide (c ≤ 57)) = v) (AV.bool false = v)) := by kernel_rfl
  exact unr_ok hT 100000 _ _ _ _ (e.mpr H)

theorem t42 {v : AV} {c : Int} (hT : TabOk cfg (ctab [])) (H :
    ifP (decide (c ≥ 65)) (ifP (decide (c ≤ 90)) (AV.bool true = v) (ifP (decide (c ≥ 97)) (ifP (decide (c ≤ 122)) (AV.bool true = v) (ifP (decide (c ≥ 48)) (AV.bool (decide (c ≤ 57)) = v) (AV.bool false = v))) (ifP (decide (c ≥ 48)) (AV.bool (decide (c ≤ 57)) = v) (AV.bool false = v)))) (ifP (decide (c ≥ 97)) (ifP (decide (c ≤ 122)) (AV.bool true = v) (ifP (decide (c ≥ 48)) (AV.bool (decide (c ≤ 57)) = v) (AV.bool false = v))) (ifP (decide (c ≥ 48)) (AV.bool (decide (c ≤ 57)) = v) (AV.bool false = v)))) :
    ToEnd cfg 42 (bodyOf Tryd.f42) (RetIs Tryd.prog Tryd.f42 v) ([.code []]) .normal ([(0, true, .int .u8 c)]) ([]) := by
  have e : unr cfg 42 (bodyOf Tryd.f42) (ctab []) ⟨[], []⟩ (RetIs Tryd.prog Tryd.f42 v) 100000 ([.code []]) .normal ([(0, true, .int .u8 c)]) ([]) =
    (ifP (decide (c ≥ 65)) (ifP (decide (c ≤ 90)) (AV.bool true = v) (ifP (decide (c ≥ 97)) (ifP (decide (c ≤ 122)) (AV.bool true = v) (ifP (decide (c ≥ 48)) (AV.bool (decide (c ≤ 57)) = v) (AV.bool false = v))) (ifP (decide (c ≥ 48)) (AV.bool (decide (c ≤ 57)) = v) (AV.bool false = v)))) (ifP (decide (c ≥ 97)) (ifP (decide (c ≤ 122)) (AV.bool true = v) (ifP (decide (c ≥ 48)) (AV.bool (decide (c ≤ 57)) = v) (AV.bool false = v))) (ifP (decide (c ≥ 48)) (AV.bool (decide (c ≤ 57)) = v) (AV.bool false = v)))) := by kernel_rfl
  exact unr_ok hT 100000 _ _ _ _ (e.mpr H)

theorem t39 {v : AV} {c : Int} (hT : TabOk cfg (ctab [(48, ixC)])) (H :
    ifP (decide (c ≥ 97)) (ifP (decide (c ≤ 122)) (AV.bool true = v) (ifP (decide (c ≥ 65)) (ifP (decide (c ≤ 90)) (AV.bool true = v) (ifP (decide (c ≥ 48)) (ifP (decide (c ≤ 57)) (AV.bool true = v) (∃ (s1 : List UInt8), ∃ (c2 : UInt8), [AV.str [33, 35, 36, 37, 38, 39, 42, 43, 45, 46, 94, 95, 96, 124, 126], AV.int IntKind.u8 c] = [AV.str s1, AV.int IntKind.u8 (↑(UInt8.toNat c2) : Int)] ∧ AV.bool (decide (Lib.indexByte s1 c2 ≥ 0)) = v)) (∃ (s3 : List UInt8), ∃ (c4 : UInt8), [AV.str [33, 35, 36, 37, 38, 39, 42, 43, 45, 46, 94, 95, 96, 124, 126], AV.int IntKind.u8 c] = [AV.str s3, AV.int IntKind.u8 (↑(UInt8.toNat c4) : Int)] ∧ AV.bool (decide (Lib.indexByte s3 c4 ≥ 0)) = v))) (ifP (decide (c ≥ 48)) (ifP (decide (c ≤ 57)) (AV.bool true = v) (∃ (s5 : List UInt8), ∃ (c6 : UInt8), [AV.str [33, 35, 36, 37, 38, 39, 42, 43, 45, 46, 94, 95, 96, 124, 126], AV.int IntKind.u8 c] = [AV.str s5, AV.int IntKind.u8 (↑(UInt8.toNat c6) : Int)] ∧ AV.bool (decide (Lib.indexByte s5 c6 ≥ 0)) = v)) (∃ (s7 : List UInt8), ∃ (c8 : UInt8), [AV.str [33, 35, 36, 37, 38, 39, 42, 43, 45, 46, 94, 95, 96, 124, 126], AV.int IntKind.u8 c] = [AV.str s7, AV.int IntKind.u8 (↑(UInt8.toNat c8) : Int)] ∧ AV.bool (decide (Lib.indexByte s7 c8 ≥ 0)) = v)))) (ifP (decide (c ≥ 65)) (ifP (decide (c ≤ 90)) (AV.bool true = v) (ifP (decide (c ≥ 48)) (ifP (decide (c ≤ 57)) (AV.bool true = v) (∃ (s9 : List UInt8), ∃ (c10 : UInt8), [AV.str [33, 35, 36, 37, 38, 39, 42, 43, 45, 46, 94, 95, 96, 124, 126], AV.int IntKind.u8 c] = [AV.str s9, AV.int IntKind.u8 (↑(UInt8.toNat c10) : Int)] ∧ AV.bool (decide (Lib.indexByte s9 c10 ≥ 0)) = v)) (∃ (s11 : List UInt8), ∃ (c12 : UInt8), [AV.str [33, 35, 36, 37, 38, 39, 42, 43, 45, 46, 94, 95, 96, 124, 126], AV.int IntKind.u8 c] = [AV.str s11, AV.int IntKind.u8 (↑(UInt8.toNat c12) : Int)] ∧ AV.bool (decide (Lib.indexByte s11 c12 ≥ 0)) = v))) (ifP (decide (c ≥ 48)) (ifP (decide (c ≤ 57)) (AV.bool true = v) (∃ (s13 : List UInt8), ∃ (c14 : UInt8), [AV.str [33, 35, 36, 37, 38, 39, 42, 43, 45, 46, 94, 95, 96, 124, 126], AV.int IntKind.u8 c] = [AV.str s13, AV.int IntKind.u8 (↑(UInt8.toNat c14) : Int)] ∧ AV.bool (decide (Lib.indexByte s13 c14 ≥ 0)) = v)) (∃ (s15 : List UInt8), ∃ (c16 : UInt8), [AV.str [33, 35, 36, 37, 38, 39, 42, 43, 45, 46, 94, 95, 96, 124, 126], AV.int IntKind.u8 c] = [AV.str s15, AV.int IntKind.u8 (↑(UInt8.toNat c16) : Int)] ∧ AV.bool (decide (Lib.indexByte s15 c16 ≥ 0)) = v)))) :
    ToEnd cfg 39 (bodyOf Tryd.f39) (RetIs Tryd.prog Tryd.f39 v) ([.code []]) .normal ([(0, true, .int .u8 c)]) ([]) := by
  have e : unr cfg 39 (bodyOf Tryd.f39) (ctab [(48, ixC)]) ⟨[], []⟩ (RetIs Tryd.prog Tryd.f39 v) 100000 ([.code []]) .normal ([(0, true, .int .u8 c)]) ([]) =
    (ifP (decide (c ≥ 97)) (ifP (decide (c ≤ 122)) (AV.bool true = v) (ifP (decide (c ≥ 65)) (ifP (decide (c ≤ 90)) (AV.bool true = v) (ifP (decide (c ≥ 48)) (ifP (decide (c ≤ 57)) (AV.bool true = v) (∃ (s1 : List UInt8), ∃ (c2 : UInt8), [AV.str [33, 35, 36, 37, 38, 39, 42, 43, 45, 46, 94, 95, 96, 124, 126], AV.int IntKind.u8 c] = [AV.str s1, AV.int IntKind.u8 (↑(UInt8.toNat c2) : Int)] ∧ AV.bool (decide (Lib.indexByte s1 c2 ≥ 0)) = v)) (∃ (s3 : List UInt8), ∃ (c4 : UInt8), [AV.str [33, 35, 36, 37, 38, 39, 42, 43, 45, 46, 94, 95, 96, 124, 126], AV.int IntKind.u8 c] = [AV.str s3, AV.int IntKind.u8 (↑(UInt8.toNat c4) : Int)] ∧ AV.bool (decide (Lib.indexByte s3 c4 ≥ 0)) = v))) (ifP (decide (c ≥ 48)) (ifP (decide (c ≤ 57)) (AV.bool true = v) (∃ (s5 : List UInt8), ∃ (c6 : UInt8), [AV.str [33, 35, 36, 37, 38, 39, 42, 43, 45, 46, 94, 95, 96, 124, 126], AV.int IntKind.u8 c] = [AV.str s5, AV.int IntKind.u8 (↑(UInt8.toNat c6) : Int)] ∧ AV.bool (decide (Lib.indexByte s5 c6 ≥ 0)) = v)) (∃ (s7 : List UInt8), ∃ (c8 : UInt8), [AV.str [33, 35, 36, 37, 38, 39, 42, 43, 45, 46, 94, 95, 96, 124, 126], AV.int IntKind.u8 c] = [AV.str s7, AV.int IntKind.u8 (↑(UInt8.toNat c8) : Int)] ∧ AV.bool (decide (Lib.indexByte s7 c8 ≥ 0)) = v)))) (ifP (decide (c ≥ 65)) (ifP (decide (c ≤ 90)) (AV.bool true = v) (ifP (decide (c ≥ 48)) (ifP (decide (c ≤ 57)) (AV.bool true = v) (∃ (s9 : List UInt8), ∃ (c10 : UInt8), [AV.str [33, 35, 36, 37, 38, 39, 42, 43, 45, 46, 94, 95, 96, 124, 126], AV.int IntKind.u8 c] = [AV.str s9, AV.int IntKind.u8 (↑(UInt8.toNat c10) : Int)] ∧ AV.bool (decide (Lib.indexByte s9 c10 ≥ 0)) = v)) (∃ (s11 : List UInt8), ∃ (c12 : UInt8), [AV.str [33, 35, 36, 37, 38, 39, 42, 43, 45, 46, 94, 95, 96, 124, 126], AV.int IntKind.u8 c] = [AV.str s11, AV.int IntKind.u8 (↑(UInt8.toNat c12) : Int)] ∧ AV.bool (decide (Lib.indexByte s11 c12 ≥ 0)) = v))) (ifP (decide (c ≥ 48)) (ifP (decide (c ≤ 57)) (AV.bool true = v) (∃ (s13 : List UInt8), ∃ (c14 : UInt8), [AV.str [33, 35, 36, 37, 38, 39, 42, 43, 45, 46, 94, 95, 96, 124, 126], AV.int IntKind.u8 c] = [AV.str s13, AV.int IntKind.u8 (↑(UInt8.toNat c14) : Int)] ∧ AV.bool (decide (Lib.indexByte s13 c14 ≥ 0)) = v)) (∃ (s15 : List UInt8), ∃ (c16 : UInt8), [AV.str [33, 35, 36, 37, 38, 39, 42, 43, 45, 46, 94, 95, 96, 124, 126], AV.int IntKind.u8 c] = [AV.str s15, AV.int IntKind.u8 (↑(UInt8.toNat c16) : Int)] ∧ AV.bool (decide (Lib.indexByte s15 c16 ≥ 0)) = v)))) := by kernel_rfl
  exact unr_ok hT 100000 _ _ _ _ (e.mpr H)

theorem t43a {v : AV} {c : Int} {s : List UInt8} (hT : TabOk cfg (ctab [])) (H :
    ToEnd cfg 43 (bodyOf Tryd.f43) (RetIs Tryd.prog Tryd.f43 v) [Fm.code [0, 1, 0, 1], Fm.block 0, Fm.code [1, 1]] XT.normal [(0, true, AV.int IntKind.u8 c), (1, true, AV.str s), (5, true, AV.int IntKind.i64 0)] []) :
    ToEnd cfg 43 (bodyOf Tryd.f43) (RetIs Tryd.prog Tryd.f43 v) ([.code []]) .normal ([(0, true, .int .u8 c), (1, true, .str s)]) ([]) := by
  have e : unr cfg 43 (bodyOf Tryd.f43) (ctab []) ⟨[[0, 1, 0, 1]], []⟩ (RetIs Tryd.prog Tryd.f43 v) 100000 ([.code []]) .normal ([(0, true, .int .u8 c), (1, true, .str s)]) ([]) =
    (ToEnd cfg 43 (bodyOf Tryd.f43) (RetIs Tryd.prog Tryd.f43 v) [Fm.code [0, 1, 0, 1], Fm.block 0, Fm.code [1, 1]] XT.normal [(0, true, AV.int IntKind.u8 c), (1, true, AV.str s), (5, true, AV.int IntKind.i64 0)] []) := by kernel_rfl
  exact unr_ok hT 100000 _ _ _ _ (e.mpr H)

theorem t25a {v : AV} {s : List UInt8} (hT : TabOk cfg (ctab [(39, byteC wordB)])) (H :
    ToEnd cfg 25 (bodyOf Tryd.f25) (RetIs Tryd.prog Tryd.f25 v) [Fm.code [0, 1, 0, 1], Fm.block 0, Fm.code [1, 1]] XT.normal [(0, true, AV.str s), (5, true, AV.int IntKind.i64 (↑(List.length s) : Int)), (6, true, AV.int IntKind.i64 0)] []) :
    ToEnd cfg 25 (bodyOf Tryd.f25) (RetIs Tryd.prog Tryd.f25 v) ([.code []]) .normal ([(0, true, .str s)]) ([]) := by
  have e : unr cfg 25 (bodyOf Tryd.f25) (ctab [(39, byteC wordB)]) ⟨[[0, 1, 0, 1]], []⟩ (RetIs Tryd.prog Tryd.f25 v) 100000 ([.code []]) .normal ([(0, true, .str s)]) ([]) =
    (ToEnd cfg 25 (bodyOf Tryd.f25) (RetIs Tryd.prog Tryd.f25 v) [Fm.code [0, 1, 0, 1], Fm.block 0, Fm.code [1, 1]] XT.normal [(0, true, AV.str s), (5, true, AV.int IntKind.i64 (↑(List.length s) : Int)), (6, true, AV.int IntKind.i64 0)] []) := by kernel_rfl
  exact unr_ok hT 100000 _ _ _ _ (e.mpr H)

theorem t28a {v : AV} {s : List UInt8} (hT : TabOk cfg (ctab [(42, byteC letterB), (43, inC)])) (H :
    ToEnd cfg 28 (bodyOf Tryd.f28) (RetIs Tryd.prog Tryd.f28 v) [Fm.code [0, 1, 0, 1], Fm.block 0, Fm.code [1, 1]] XT.normal [(0, true, AV.str s), (3, true, AV.int IntKind.i64 0)] []) :
    ToEnd cfg 28 (bodyOf Tryd.f28) (RetIs Tryd.prog Tryd.f28 v) ([.code []]) .normal ([(0, true, .str s)]) ([]) := by
  have e : unr cfg 28 (bodyOf Tryd.f28) (ctab [(42, byteC letterB), (43, inC)]) ⟨[[0, 1, 0, 1]], []⟩ (RetIs Tryd.prog Tryd.f28 v) 100000 ([.code []]) .normal ([(0, true, .str s)]) ([]) =
    (ToEnd cfg 28 (bodyOf Tryd.f28) (RetIs Tryd.prog Tryd.f28 v) [Fm.code [0, 1, 0, 1], Fm.block 0, Fm.code [1, 1]] XT.normal [(0, true, AV.str s), (3, true, AV.int IntKind.i64 0)] []) := by kernel_rfl
  exact unr_ok hT 100000 _ _ _ _ (e.mpr H)

theorem t24a {v : AV} {l s : List UInt8} (hT : TabOk cfg (ctab [])) (H :
    ToEnd cfg 24 (bodyOf Tryd.f24) (RetIs Tryd.prog Tryd.f24 v) [Fm.code [0, 1, 0, 1], Fm.block 0, Fm.code [1, 1]] XT.normal [(0, true, AV.str l), (1, true, AV.str s), (9, true, AV.int IntKind.i64 (↑(List.length s) : Int)), (10, true, AV.int IntKind.i64 0)] []) :
    ToEnd cfg 24 (bodyOf Tryd.f24) (RetIs Tryd.prog Tryd.f24 v) ([.code []]) .normal ([(0, true, .str l), (1, true, .str s)]) ([]) := by
  have e : unr cfg 24 (bodyOf Tryd.f24) (ctab []) ⟨[[0, 1, 0, 1], [0, 1, 0, 1, 1, 0, 0, 1, 1, 0, 0, 1, 0, 1]], []⟩ (RetIs Tryd.prog Tryd.f24 v) 100000 ([.code []]) .normal ([(0, true, .str l), (1, true, .str s)]) ([]) =
    (ToEnd cfg 24 (bodyOf Tryd.f24) (RetIs Tryd.prog Tryd.f24 v) [Fm.code [0, 1, 0, 1], Fm.block 0, Fm.code [1, 1]] XT.normal [(0, true, AV.str l), (1, true, AV.str s), (9, true, AV.int IntKind.i64 (↑(List.length s) : Int)), (10, true, AV.int IntKind.i64 0)] []) := by kernel_rfl
  exact unr_ok hT 100000 _ _ _ _ (e.mpr H)

theorem t58 {v : AV} {s x : List UInt8} (hT : TabOk cfg (ctab [])) (H :
    ifP (decide ((↑(List.length s) : Int) ≥ (↑(List.length x) : Int))) (gAnd (cutOb (List.length s) none (some (↑(List.length x) : Int))) (AV.bool (cutL s none (some (↑(List.length x) : Int)) == x) = v)) (AV.bool false = v)) :
    ToEnd cfg 58 (bodyOf Tryd.f58) (RetIs Tryd.prog Tryd.f58 v) ([.code []]) .normal ([(0, true, .str s), (1, true, .str x)]) ([]) := by
  have e : unr cfg 58 (bodyOf Tryd.f58) (ctab []) ⟨[], []⟩ (RetIs Tryd.prog Tryd.f58 v) 100000 ([.code []]) .normal ([(0, true, .str s), (1, true, .str x)]) ([]) =
    (ifP (decide ((↑(List.length s) : Int) ≥ (↑(List.length x) : Int))) (gAnd (cutOb (List.length s) none (some (↑(List.length x) : Int))) (AV.bool (cutL s none (some (↑(List.length x) : Int)) == x) = v)) (AV.bool false = v)) := by kernel_rfl
  exact unr_ok hT 100000 _ _ _ _ (e.mpr H)

theorem t49 {v : AV} {s x : List UInt8} (hT : TabOk cfg (ctab [(58, Ai.prefC)])) (H :
    ∃ (s1 : List UInt8), ∃ (x2 : List UInt8), [AV.str s, AV.str x] = [AV.str s1, AV.str x2] ∧ ifP (!List.isPrefixOf x2 s1) (AV.tup [AV.str s, AV.bool false] = v) (gAnd (cutOb (List.length s) (some (↑(List.length x) : Int)) none) (AV.tup [AV.str (cutL s (some (↑(List.length x) : Int)) none), AV.bool true] = v))) :
    ToEnd cfg 49 (bodyOf Tryd.f49) (RetIs Tryd.prog Tryd.f49 v) ([.code []]) .normal ([(0, true, .str s), (1, true, .str x)]) ([]) := by
  have e : unr cfg 49 (bodyOf Tryd.f49) (ctab [(58, Ai.prefC)]) ⟨[], []⟩ (RetIs Tryd.prog Tryd.f49 v) 100000 ([.code []]) .normal ([(0, true, .str s), (1, true, .str x)]) ([]) =
    (∃ (s1 : List UInt8), ∃ (x2 : List UInt8), [AV.str s, AV.str x] = [AV.str s1, AV.str x2] ∧ ifP (!List.isPrefixOf x2 s1) (AV.tup [AV.str s, AV.bool false] = v) (gAnd (cutOb (List.length s) (some (↑(List.length x) : Int)) none) (AV.tup [AV.str (cutL s (some (↑(List.length x) : Int)) none), AV.bool true] = v))) := by kernel_rfl
  exact unr_ok hT 100000 _ _ _ _ (e.mpr H)

theorem t40 {v : AV} {s x : List UInt8} (hT : TabOk cfg (ctab [(49, cutPC)])) (H :
    ∃ (s1 : List UInt8), ∃ (x2 : List UInt8), [AV.str s, AV.str x] = [AV.str s1, AV.str x2] ∧ AV.tup [AV.str (Prod.fst (cutP s1 x2)), AV.bool (Prod.snd (cutP s1 x2))] = v) :
    ToEnd cfg 40 (bodyOf Tryd.f40) (RetIs Tryd.prog Tryd.f40 v) ([.code []]) .normal ([(0, true, .str s), (1, true, .str x)]) ([]) := by
  have e : unr cfg 40 (bodyOf Tryd.f40) (ctab [(49, cutPC)]) ⟨[], []⟩ (RetIs Tryd.prog Tryd.f40 v) 100000 ([.code []]) .normal ([(0, true, .str s), (1, true, .str x)]) ([]) =
    (∃ (s1 : List UInt8), ∃ (x2 : List UInt8), [AV.str s, AV.str x] = [AV.str s1, AV.str x2] ∧ AV.tup [AV.str (Prod.fst (cutP s1 x2)), AV.bool (Prod.snd (cutP s1 x2))] = v) := by kernel_rfl
  exact unr_ok hT 100000 _ _ _ _ (e.mpr H)

theorem t35 {v : AV} {mi : Int} {bad : Bool} {s : List UInt8} (hT : TabOk cfg (ctab [])) (H :
    ifP bad (AV.tup [AV.str [], AV.int IntKind.i64 4] = v) (ifP (decide (mi < 0)) (AV.tup [AV.str [], AV.int IntKind.i64 4] = v) (ifP (decide (mi > 1)) (AV.tup [AV.str [], AV.int IntKind.i64 4] = v) (ifP (decide ((↑(List.length s) : Int) > 2048)) (AV.tup [AV.str [], AV.int IntKind.i64 3] = v) (AV.tup [AV.str s, AV.int IntKind.i64 0] = v))))) :
    ToEnd cfg 35 (bodyOf Tryd.f35) (RetIs Tryd.prog Tryd.f35 v) ([.code []]) .normal ([(0, true, .int .i64 mi), (1, true, .bool bad), (2, true, .str s)]) ([]) := by
  have e : unr cfg 35 (bodyOf Tryd.f35) (ctab []) ⟨[], []⟩ (RetIs Tryd.prog Tryd.f35 v) 100000 ([.code []]) .normal ([(0, true, .int .i64 mi), (1, true, .bool bad), (2, true, .str s)]) ([]) =
    (ifP bad (AV.tup [AV.str [], AV.int IntKind.i64 4] = v) (ifP (decide (mi < 0)) (AV.tup [AV.str [], AV.int IntKind.i64 4] = v) (ifP (decide (mi > 1)) (AV.tup [AV.str [], AV.int IntKind.i64 4] = v) (ifP (decide ((↑(List.length s) : Int) > 2048)) (AV.tup [AV.str [], AV.int IntKind.i64 3] = v) (AV.tup [AV.str s, AV.int IntKind.i64 0] = v))))) := by kernel_rfl
  exact unr_ok hT 100000 _ _ _ _ (e.mpr H)

theorem t27 {v : AV} {s : List UInt8} (hT : TabOk cfg (ctab [(33, byteC isDg)])) (H :
    ifP ((↑(List.length s) : Int) == 8) (gAnd (cutOb (List.length s) none (some 5)) (ifP (cutL s none (some 5) == [72, 84, 84, 80, 47]) (gAnd (inR 5 (List.length s)) (∃ (c1 : UInt8), [AV.int IntKind.u8 (↑(UInt8.toNat (List.getD s 5 0)) : Int)] = [AV.int IntKind.u8 (↑(UInt8.toNat c1) : Int)] ∧ ifP (isDg c1) (gAnd (inR 6 (List.length s)) (ifP ((↑(UInt8.toNat (List.getD s 6 0)) : Int) == 46) (gAnd (inR 7 (List.length s)) (∃ (c2 : UInt8), [AV.int IntKind.u8 (↑(UInt8.toNat (List.getD s 7 0)) : Int)] = [AV.int IntKind.u8 (↑(UInt8.toNat c2) : Int)] ∧ AV.bool (isDg c2) = v)) (AV.bool false = v))) (AV.bool false = v))) (AV.bool false = v))) (AV.bool false = v)) :
    ToEnd cfg 27 (bodyOf Tryd.f27) (RetIs Tryd.prog Tryd.f27 v) ([.code []]) .normal ([(0, true, .str s)]) ([]) := by
  have e : unr cfg 27 (bodyOf Tryd.f27) (ctab [(33, byteC isDg)]) ⟨[], []⟩ (RetIs Tryd.prog Tryd.f27 v) 100000 ([.code []]) .normal ([(0, true, .str s)]) ([]) =
    (ifP ((↑(List.length s) : Int) == 8) (gAnd (cutOb (List.length s) none (some 5)) (ifP (cutL s none (some 5) == [72, 84, 84, 80, 47]) (gAnd (inR 5 (List.length s)) (∃ (c1 : UInt8), [AV.int IntKind.u8 (↑(UInt8.toNat (List.getD s 5 0)) : Int)] = [AV.int IntKind.u8 (↑(UInt8.toNat c1) : Int)] ∧ ifP (isDg c1) (gAnd (inR 6 (List.length s)) (ifP ((↑(UInt8.toNat (List.getD s 6 0)) : Int) == 46) (gAnd (inR 7 (List.length s)) (∃ (c2 : UInt8), [AV.int IntKind.u8 (↑(UInt8.toNat (List.getD s 7 0)) : Int)] = [AV.int IntKind.u8 (↑(UInt8.toNat c2) : Int)] ∧ AV.bool (isDg c2) = v)) (AV.bool false = v))) (AV.bool false = v))) (AV.bool false = v))) (AV.bool false = v)) := by kernel_rfl
  exact unr_ok hT 100000 _ _ _ _ (e.mpr H)

theorem t30 {v : AV} {s : List UInt8} (hT : TabOk cfg (ctab [])) (H :
    gAnd (inR 7 (List.length s)) (ifP ((↑(UInt8.toNat (List.getD s 7 0)) : Int) == 48) (AV.int IntKind.i64 0 = v) (AV.int IntKind.i64 1 = v))) :
    ToEnd cfg 30 (bodyOf Tryd.f30) (RetIs Tryd.prog Tryd.f30 v) ([.code []]) .normal ([(0, true, .str s)]) ([]) := by
  have e : unr cfg 30 (bodyOf Tryd.f30) (ctab []) ⟨[], []⟩ (RetIs Tryd.prog Tryd.f30 v) 100000 ([.code []]) .normal ([(0, true, .str s)]) ([]) =
    (gAnd (inR 7 (List.length s)) (ifP ((↑(UInt8.toNat (List.getD s 7 0)) : Int) == 48) (AV.int IntKind.i64 0 = v) (AV.int IntKind.i64 1 = v))) := by kernel_rfl
  exact unr_ok hT 100000 _ _ _ _ (e.mpr H)

theorem t29a {v : AV} {s : List UInt8} (hT : TabOk cfg (ctab [])) (H :
    ToEnd cfg 29 (bodyOf Tryd.f29) (RetIs Tryd.prog Tryd.f29 v) [Fm.code [0, 1, 0, 1], Fm.block 0, Fm.code [1, 1]] XT.normal [(0, true, AV.str s), (3, true, AV.int IntKind.i64 0)] []) :
    ToEnd cfg 29 (bodyOf Tryd.f29) (RetIs Tryd.prog Tryd.f29 v) ([.code []]) .normal ([(0, true, .str s)]) ([]) := by
  have e : unr cfg 29 (bodyOf Tryd.f29) (ctab []) ⟨[[0, 1, 0, 1]], []⟩ (RetIs Tryd.prog Tryd.f29 v) 100000 ([.code []]) .normal ([(0, true, .str s)]) ([]) =
    (ToEnd cfg 29 (bodyOf Tryd.f29) (RetIs Tryd.prog Tryd.f29 v) [Fm.code [0, 1, 0, 1], Fm.block 0, Fm.code [1, 1]] XT.normal [(0, true, AV.str s), (3, true, AV.int IntKind.i64 0)] []) := by kernel_rfl
  exact unr_ok hT 100000 _ _ _ _ (e.mpr H)

theorem t34a {v : AV} {s : List UInt8} (hT : TabOk cfg (ctab [])) (H :
    ToEnd cfg 34 (bodyOf Tryd.f34) (RetIs Tryd.prog Tryd.f34 v) [Fm.code [0, 1, 0, 1], Fm.block 0, Fm.code [1, 1]] XT.normal [(0, true, AV.str s), (3, true, AV.int IntKind.i64 0)] []) :
    ToEnd cfg 34 (bodyOf Tryd.f34) (RetIs Tryd.prog Tryd.f34 v) ([.code []]) .normal ([(0, true, .str s)]) ([]) := by
  have e : unr cfg 34 (bodyOf Tryd.f34) (ctab []) ⟨[[0, 1, 0, 1]], []⟩ (RetIs Tryd.prog Tryd.f34 v) 100000 ([.code []]) .normal ([(0, true, .str s)]) ([]) =
    (ToEnd cfg 34 (bodyOf Tryd.f34) (RetIs Tryd.prog Tryd.f34 v) [Fm.code [0, 1, 0, 1], Fm.block 0, Fm.code [1, 1]] XT.normal [(0, true, AV.str s), (3, true, AV.int IntKind.i64 0)] []) := by kernel_rfl
  exact unr_ok hT 100000 _ _ _ _ (e.mpr H)

theorem t37 {v : AV} {n : Int} (hT : TabOk cfg (ctab [])) (H :
    ifP (n == 0) (AV.str [72, 84, 84, 80, 47, 49, 46, 48] = v) (AV.str [72, 84, 84, 80, 47, 49, 46, 49] = v)) :
    ToEnd cfg 37 (bodyOf Tryd.f37) (RetIs Tryd.prog Tryd.f37 v) ([.code []]) .normal ([(0, true, .int .i64 n)]) ([]) := by
  have e : unr cfg 37 (bodyOf Tryd.f37) (ctab []) ⟨[], []⟩ (RetIs Tryd.prog Tryd.f37 v) 100000 ([.code []]) .normal ([(0, true, .int .i64 n)]) ([]) =
    (ifP (n == 0) (AV.str [72, 84, 84, 80, 47, 49, 46, 48] = v) (AV.str [72, 84, 84, 80, 47, 49, 46, 49] = v)) := by kernel_rfl
  exact unr_ok hT 100000 _ _ _ _ (e.mpr H)

theorem t43b {v : AV}   {i0 : Int} {s1 : List UInt8} {i5 : Int} (hT : TabOk cfg (ctab [])) (H :
    ifP (decide (i5 < (↑(List.length s1) : Int))) (gAnd (inR i5 (List.length s1)) (ifP ((↑(UInt8.toNat (List.getD s1 (Int.toNat i5) 0)) : Int) == i0) (AV.bool true = v) (ToEnd cfg 43 (bodyOf Tryd.f43) (RetIs Tryd.prog Tryd.f43 v) [Fm.code [0, 1, 0, 1], Fm.block 0, Fm.code [1, 1]] XT.normal [(0, true, AV.int IntKind.u8 i0), (1, true, AV.str s1), (5, true, AV.int IntKind.i64 (IntKind.wrap IntKind.i64 (i5 + 1)))] []))) (AV.bool false = v)) :
    ToEnd cfg 43 (bodyOf Tryd.f43) (RetIs Tryd.prog Tryd.f43 v) ([.code [0, 1, 0, 1], Fm.block 0, Fm.code [1, 1]]) .normal ([(0, true, AV.int IntKind.u8 i0), (1, true, AV.str s1), (5, true, AV.int IntKind.i64 i5)]) ([]) := by
  have e : unr cfg 43 (bodyOf Tryd.f43) (ctab []) ⟨[[0, 1, 0, 1]], []⟩ (RetIs Tryd.prog Tryd.f43 v) 100000 ([.code [0, 0, 1, 0, 1], .loop [0, 1, 0, 1] 0, Fm.block 0, Fm.code [1, 1]]) .normal ([(0, true, AV.int IntKind.u8 i0), (1, true, AV.str s1), (5, true, AV.int IntKind.i64 i5)]) ([]) =
    (ifP (decide (i5 < (↑(List.length s1) : Int))) (gAnd (inR i5 (List.length s1)) (ifP ((↑(UInt8.toNat (List.getD s1 (Int.toNat i5) 0)) : Int) == i0) (AV.bool true = v) (ToEnd cfg 43 (bodyOf Tryd.f43) (RetIs Tryd.prog Tryd.f43 v) [Fm.code [0, 1, 0, 1], Fm.block 0, Fm.code [1, 1]] XT.normal [(0, true, AV.int IntKind.u8 i0), (1, true, AV.str s1), (5, true, AV.int IntKind.i64 (IntKind.wrap IntKind.i64 (i5 + 1)))] []))) (AV.bool false = v)) := by kernel_rfl
  exact ends_round hT 100000 (by kernel_rfl) (e.mpr H)

theorem t25b {v : AV}  {s0 : List UInt8} {i5 : Int} {i6 : Int} (hT : TabOk cfg (ctab [(39, byteC wordB)])) (H :
    ifP (decide (i6 < i5)) (gAnd (inR i6 (List.length s0)) (∃ (c1 : UInt8), [AV.int IntKind.u8 (↑(UInt8.toNat (List.getD s0 (Int.toNat i6) 0)) : Int)] = [AV.int IntKind.u8 (↑(UInt8.toNat c1) : Int)] ∧ ifP (!wordB c1) (AV.bool false = v) (ToEnd cfg 25 (bodyOf Tryd.f25) (RetIs Tryd.prog Tryd.f25 v) [Fm.code [0, 1, 0, 1], Fm.block 0, Fm.code [1, 1]] XT.normal [(0, true, AV.str s0), (5, true, AV.int IntKind.i64 i5), (6, true, AV.int IntKind.i64 (IntKind.wrap IntKind.i64 (i6 + 1)))] []))) ((AV.bool !s0 == []) = v)) :
    ToEnd cfg 25 (bodyOf Tryd.f25) (RetIs Tryd.prog Tryd.f25 v) ([.code [0, 1, 0, 1], Fm.block 0, Fm.code [1, 1]]) .normal ([(0, true, AV.str s0), (5, true, AV.int IntKind.i64 i5), (6, true, AV.int IntKind.i64 i6)]) ([]) := by
  have e : unr cfg 25 (bodyOf Tryd.f25) (ctab [(39, byteC wordB)]) ⟨[[0, 1, 0, 1]], []⟩ (RetIs Tryd.prog Tryd.f25 v) 100000 ([.code [0, 0, 1, 0, 1], .loop [0, 1, 0, 1] 0, Fm.block 0, Fm.code [1, 1]]) .normal ([(0, true, AV.str s0), (5, true, AV.int IntKind.i64 i5), (6, true, AV.int IntKind.i64 i6)]) ([]) =
    (ifP (decide (i6 < i5)) (gAnd (inR i6 (List.length s0)) (∃ (c1 : UInt8), [AV.int IntKind.u8 (↑(UInt8.toNat (List.getD s0 (Int.toNat i6) 0)) : Int)] = [AV.int IntKind.u8 (↑(UInt8.toNat c1) : Int)] ∧ ifP (!wordB c1) (AV.bool false = v) (ToEnd cfg 25 (bodyOf Tryd.f25) (RetIs Tryd.prog Tryd.f25 v) [Fm.code [0, 1, 0, 1], Fm.block 0, Fm.code [1, 1]] XT.normal [(0, true, AV.str s0), (5, true, AV.int IntKind.i64 i5), (6, true, AV.int IntKind.i64 (IntKind.wrap IntKind.i64 (i6 + 1)))] []))) ((AV.bool !s0 == []) = v)) := by kernel_rfl
  exact ends_round hT 100000 (by kernel_rfl) (e.mpr H)

theorem t28b {v : AV}  {s0 : List UInt8} {i3 : Int} (hT : TabOk cfg (ctab [(42, byteC letterB), (43, inC)])) (H :
    ifP (decide (i3 < (↑(List.length s0) : Int))) (gAnd (inR i3 (List.length s0)) (∃ (c1 : UInt8), [AV.int IntKind.u8 (↑(UInt8.toNat (List.getD s0 (Int.toNat i3) 0)) : Int)] = [AV.int IntKind.u8 (↑(UInt8.toNat c1) : Int)] ∧ ifP (!letterB c1) (gAnd (inR i3 (List.length s0)) (∃ (c2 : UInt8), ∃ (s3 : List UInt8), List.length s3 ≤ 100000 ∧ [AV.int IntKind.u8 (↑(UInt8.toNat (List.getD s0 (Int.toNat i3) 0)) : Int), AV.str [33, 35, 36, 37, 38, 39, 42, 43, 45, 46, 94, 95, 96, 124, 126]] = [AV.int IntKind.u8 (↑(UInt8.toNat c2) : Int), AV.str s3] ∧ ifP (!List.contains s3 c2) (AV.bool false = v) (ToEnd cfg 28 (bodyOf Tryd.f28) (RetIs Tryd.prog Tryd.f28 v) [Fm.code [0, 1, 0, 1], Fm.block 0, Fm.code [1, 1]] XT.normal [(0, true, AV.str s0), (3, true, AV.int IntKind.i64 (IntKind.wrap IntKind.i64 (i3 + 1)))] []))) (ToEnd cfg 28 (bodyOf Tryd.f28) (RetIs Tryd.prog Tryd.f28 v) [Fm.code [0, 1, 0, 1], Fm.block 0, Fm.code [1, 1]] XT.normal [(0, true, AV.str s0), (3, true, AV.int IntKind.i64 (IntKind.wrap IntKind.i64 (i3 + 1)))] []))) (AV.bool (decide ((↑(List.length s0) : Int) > 0)) = v)) :
    ToEnd cfg 28 (bodyOf Tryd.f28) (RetIs Tryd.prog Tryd.f28 v) ([.code [0, 1, 0, 1], Fm.block 0, Fm.code [1, 1]]) .normal ([(0, true, AV.str s0), (3, true, AV.int IntKind.i64 i3)]) ([]) := by
  have e : unr cfg 28 (bodyOf Tryd.f28) (ctab [(42, byteC letterB), (43, inC)]) ⟨[[0, 1, 0, 1]], []⟩ (RetIs Tryd.prog Tryd.f28 v) 100000 ([.code [0, 0, 1, 0, 1], .loop [0, 1, 0, 1] 0, Fm.block 0, Fm.code [1, 1]]) .normal ([(0, true, AV.str s0), (3, true, AV.int IntKind.i64 i3)]) ([]) =
    (ifP (decide (i3 < (↑(List.length s0) : Int))) (gAnd (inR i3 (List.length s0)) (∃ (c1 : UInt8), [AV.int IntKind.u8 (↑(UInt8.toNat (List.getD s0 (Int.toNat i3) 0)) : Int)] = [AV.int IntKind.u8 (↑(UInt8.toNat c1) : Int)] ∧ ifP (!letterB c1) (gAnd (inR i3 (List.length s0)) (∃ (c2 : UInt8), ∃ (s3 : List UInt8), List.length s3 ≤ 100000 ∧ [AV.int IntKind.u8 (↑(UInt8.toNat (List.getD s0 (Int.toNat i3) 0)) : Int), AV.str [33, 35, 36, 37, 38, 39, 42, 43, 45, 46, 94, 95, 96, 124, 126]] = [AV.int IntKind.u8 (↑(UInt8.toNat c2) : Int), AV.str s3] ∧ ifP (!List.contains s3 c2) (AV.bool false = v) (ToEnd cfg 28 (bodyOf Tryd.f28) (RetIs Tryd.prog Tryd.f28 v) [Fm.code [0, 1, 0, 1], Fm.block 0, Fm.code [1, 1]] XT.normal [(0, true, AV.str s0), (3, true, AV.int IntKind.i64 (IntKind.wrap IntKind.i64 (i3 + 1)))] []))) (ToEnd cfg 28 (bodyOf Tryd.f28) (RetIs Tryd.prog Tryd.f28 v) [Fm.code [0, 1, 0, 1], Fm.block 0, Fm.code [1, 1]] XT.normal [(0, true, AV.str s0), (3, true, AV.int IntKind.i64 (IntKind.wrap IntKind.i64 (i3 + 1)))] []))) (AV.bool (decide ((↑(List.length s0) : Int) > 0)) = v)) := by kernel_rfl
  exact ends_round hT 100000 (by kernel_rfl) (e.mpr H)

theorem t29b {v : AV}  {s0 : List UInt8} {i3 : Int} (hT : TabOk cfg (ctab [])) (H :
    ifP (decide (i3 < (↑(List.length s0) : Int))) (gAnd (inR i3 (List.length s0)) (ifP (decide ((↑(UInt8.toNat (List.getD s0 (Int.toNat i3) 0)) : Int) < 33)) (AV.bool false = v) (gAnd (inR i3 (List.length s0)) (ifP (decide ((↑(UInt8.toNat (List.getD s0 (Int.toNat i3) 0)) : Int) > 126)) (AV.bool false = v) (ToEnd cfg 29 (bodyOf Tryd.f29) (RetIs Tryd.prog Tryd.f29 v) [Fm.code [0, 1, 0, 1], Fm.block 0, Fm.code [1, 1]] XT.normal [(0, true, AV.str s0), (3, true, AV.int IntKind.i64 (IntKind.wrap IntKind.i64 (i3 + 1)))] []))))) (AV.bool (decide ((↑(List.length s0) : Int) > 0)) = v)) :
    ToEnd cfg 29 (bodyOf Tryd.f29) (RetIs Tryd.prog Tryd.f29 v) ([.code [0, 1, 0, 1], Fm.block 0, Fm.code [1, 1]]) .normal ([(0, true, AV.str s0), (3, true, AV.int IntKind.i64 i3)]) ([]) := by
  have e : unr cfg 29 (bodyOf Tryd.f29) (ctab []) ⟨[[0, 1, 0, 1]], []⟩ (RetIs Tryd.prog Tryd.f29 v) 100000 ([.code [0, 0, 1, 0, 1], .loop [0, 1, 0, 1] 0, Fm.block 0, Fm.code [1, 1]]) .normal ([(0, true, AV.str s0), (3, true, AV.int IntKind.i64 i3)]) ([]) =
    (ifP (decide (i3 < (↑(List.length s0) : Int))) (gAnd (inR i3 (List.length s0)) (ifP (decide ((↑(UInt8.toNat (List.getD s0 (Int.toNat i3) 0)) : Int) < 33)) (AV.bool false = v) (gAnd (inR i3 (List.length s0)) (ifP (decide ((↑(UInt8.toNat (List.getD s0 (Int.toNat i3) 0)) : Int) > 126)) (AV.bool false = v) (ToEnd cfg 29 (bodyOf Tryd.f29) (RetIs Tryd.prog Tryd.f29 v) [Fm.code [0, 1, 0, 1], Fm.block 0, Fm.code [1, 1]] XT.normal [(0, true, AV.str s0), (3, true, AV.int IntKind.i64 (IntKind.wrap IntKind.i64 (i3 + 1)))] []))))) (AV.bool (decide ((↑(List.length s0) : Int) > 0)) = v)) := by kernel_rfl
  exact ends_round hT 100000 (by kernel_rfl) (e.mpr H)

theorem t34b {v : AV}  {s0 : List UInt8} {i3 : Int} (hT : TabOk cfg (ctab [])) (H :
    ifP (decide (i3 < (↑(List.length s0) : Int))) (gAnd (inR i3 (List.length s0)) (ifP ((↑(UInt8.toNat (List.getD s0 (Int.toNat i3) 0)) : Int) != 9) (gAnd (inR i3 (List.length s0)) (ifP (decide ((↑(UInt8.toNat (List.getD s0 (Int.toNat i3) 0)) : Int) < 32)) (AV.bool false = v) (gAnd (inR i3 (List.length s0)) (ifP ((↑(UInt8.toNat (List.getD s0 (Int.toNat i3) 0)) : Int) == 127) (AV.bool false = v) (ToEnd cfg 34 (bodyOf Tryd.f34) (RetIs Tryd.prog Tryd.f34 v) [Fm.code [0, 1, 0, 1], Fm.block 0, Fm.code [1, 1]] XT.normal [(0, true, AV.str s0), (3, true, AV.int IntKind.i64 (IntKind.wrap IntKind.i64 (i3 + 1)))] []))))) (gAnd (inR i3 (List.length s0)) (ifP ((↑(UInt8.toNat (List.getD s0 (Int.toNat i3) 0)) : Int) == 127) (AV.bool false = v) (ToEnd cfg 34 (bodyOf Tryd.f34) (RetIs Tryd.prog Tryd.f34 v) [Fm.code [0, 1, 0, 1], Fm.block 0, Fm.code [1, 1]] XT.normal [(0, true, AV.str s0), (3, true, AV.int IntKind.i64 (IntKind.wrap IntKind.i64 (i3 + 1)))] []))))) (AV.bool true = v)) :
    ToEnd cfg 34 (bodyOf Tryd.f34) (RetIs Tryd.prog Tryd.f34 v) ([.code [0, 1, 0, 1], Fm.block 0, Fm.code [1, 1]]) .normal ([(0, true, AV.str s0), (3, true, AV.int IntKind.i64 i3)]) ([]) := by
  have e : unr cfg 34 (bodyOf Tryd.f34) (ctab []) ⟨[[0, 1, 0, 1]], []⟩ (RetIs Tryd.prog Tryd.f34 v) 100000 ([.code [0, 0, 1, 0, 1], .loop [0, 1, 0, 1] 0, Fm.block 0, Fm.code [1, 1]]) .normal ([(0, true, AV.str s0), (3, true, AV.int IntKind.i64 i3)]) ([]) =
    (ifP (decide (i3 < (↑(List.length s0) : Int))) (gAnd (inR i3 (List.length s0)) (ifP ((↑(UInt8.toNat (List.getD s0 (Int.toNat i3) 0)) : Int) != 9) (gAnd (inR i3 (List.length s0)) (ifP (decide ((↑(UInt8.toNat (List.getD s0 (Int.toNat i3) 0)) : Int) < 32)) (AV.bool false = v) (gAnd (inR i3 (List.length s0)) (ifP ((↑(UInt8.toNat (List.getD s0 (Int.toNat i3) 0)) : Int) == 127) (AV.bool false = v) (ToEnd cfg 34 (bodyOf Tryd.f34) (RetIs Tryd.prog Tryd.f34 v) [Fm.code [0, 1, 0, 1], Fm.block 0, Fm.code [1, 1]] XT.normal [(0, true, AV.str s0), (3, true, AV.int IntKind.i64 (IntKind.wrap IntKind.i64 (i3 + 1)))] []))))) (gAnd (inR i3 (List.length s0)) (ifP ((↑(UInt8.toNat (List.getD s0 (Int.toNat i3) 0)) : Int) == 127) (AV.bool false = v) (ToEnd cfg 34 (bodyOf Tryd.f34) (RetIs Tryd.prog Tryd.f34 v) [Fm.code [0, 1, 0, 1], Fm.block 0, Fm.code [1, 1]] XT.normal [(0, true, AV.str s0), (3, true, AV.int IntKind.i64 (IntKind.wrap IntKind.i64 (i3 + 1)))] []))))) (AV.bool true = v)) := by kernel_rfl
  exact ends_round hT 100000 (by kernel_rfl) (e.mpr H)

theorem t24b {v : AV}  {s0 : List UInt8} {s1 : List UInt8} {i9 : Int} {i10 : Int} (hT : TabOk cfg (ctab [])) (H :
    ifP (decide (i10 < i9)) (ToEnd cfg 24 (bodyOf Tryd.f24) (RetIs Tryd.prog Tryd.f24 v) [Fm.code [0, 1, 0, 1, 1, 0, 0, 1, 1, 0, 0, 1, 0, 1], Fm.block 2, Fm.code [1, 1, 1, 0, 0, 1, 1, 0, 0, 1, 0, 1], Fm.block 1, Fm.code [1, 1, 1, 0, 0, 1, 0, 1], Fm.loop [0, 1, 0, 1] 0, Fm.block 0, Fm.code [1, 1]] XT.normal [(0, true, AV.str s0), (1, true, AV.str s1), (5, true, AV.int IntKind.i64 i10), (6, true, AV.bool false), (7, true, AV.int IntKind.i64 0), (9, true, AV.int IntKind.i64 i9), (10, true, AV.int IntKind.i64 i10)] []) (AV.bool true = v)) :
    ToEnd cfg 24 (bodyOf Tryd.f24) (RetIs Tryd.prog Tryd.f24 v) ([.code [0, 1, 0, 1], Fm.block 0, Fm.code [1, 1]]) .normal ([(0, true, AV.str s0), (1, true, AV.str s1), (9, true, AV.int IntKind.i64 i9), (10, true, AV.int IntKind.i64 i10)]) ([]) := by
  have e : unr cfg 24 (bodyOf Tryd.f24) (ctab []) ⟨[[0, 1, 0, 1], [0, 1, 0, 1, 1, 0, 0, 1, 1, 0, 0, 1, 0, 1]], []⟩ (RetIs Tryd.prog Tryd.f24 v) 100000 ([.code [0, 0, 1, 0, 1], .loop [0, 1, 0, 1] 0, Fm.block 0, Fm.code [1, 1]]) .normal ([(0, true, AV.str s0), (1, true, AV.str s1), (9, true, AV.int IntKind.i64 i9), (10, true, AV.int IntKind.i64 i10)]) ([]) =
    (ifP (decide (i10 < i9)) (ToEnd cfg 24 (bodyOf Tryd.f24) (RetIs Tryd.prog Tryd.f24 v) [Fm.code [0, 1, 0, 1, 1, 0, 0, 1, 1, 0, 0, 1, 0, 1], Fm.block 2, Fm.code [1, 1, 1, 0, 0, 1, 1, 0, 0, 1, 0, 1], Fm.block 1, Fm.code [1, 1, 1, 0, 0, 1, 0, 1], Fm.loop [0, 1, 0, 1] 0, Fm.block 0, Fm.code [1, 1]] XT.normal [(0, true, AV.str s0), (1, true, AV.str s1), (5, true, AV.int IntKind.i64 i10), (6, true, AV.bool false), (7, true, AV.int IntKind.i64 0), (9, true, AV.int IntKind.i64 i9), (10, true, AV.int IntKind.i64 i10)] []) (AV.bool true = v)) := by kernel_rfl
  exact ends_round hT 100000 (by kernel_rfl) (e.mpr H)

theorem t24c {v : AV}  {s0 : List UInt8} {s1 : List UInt8} {i9 : Int} {i10 : Int} {i5 : Int} {b6 : Bool} {i7 : Int} (hT : TabOk cfg (ctab [])) (H :
    ifP (decide (i7 < (↑(List.length s0) : Int))) (ifP b6 (ToEnd cfg 24 (bodyOf Tryd.f24) (RetIs Tryd.prog Tryd.f24 v) [Fm.code [0, 1, 0, 1, 1, 0, 0, 1, 1, 0, 0, 1, 0, 1], Fm.block 2, Fm.code [1, 1, 1, 0, 0, 1, 1, 0, 0, 1, 0, 1], Fm.block 1, Fm.code [1, 1, 1, 0, 0, 1, 0, 1], Fm.loop [0, 1, 0, 1] 0, Fm.block 0, Fm.code [1, 1]] XT.normal [(0, true, AV.str s0), (1, true, AV.str s1), (5, true, AV.int IntKind.i64 i5), (6, true, AV.bool true), (7, true, AV.int IntKind.i64 (IntKind.wrap IntKind.i64 (i7 + 2))), (9, true, AV.int IntKind.i64 i9), (10, true, AV.int IntKind.i64 i10)] []) (gAnd (inR i5 (List.length s1)) (gAnd (inR i7 (List.length s0)) (ifP (decide ((↑(UInt8.toNat (List.getD s1 (Int.toNat i5) 0)) : Int) ≥ (↑(UInt8.toNat (List.getD s0 (Int.toNat i7) 0)) : Int))) (gAnd (inR i5 (List.length s1)) (gAnd (inR (IntKind.wrap IntKind.i64 (i7 + 1)) (List.length s0)) (ToEnd cfg 24 (bodyOf Tryd.f24) (RetIs Tryd.prog Tryd.f24 v) [Fm.code [0, 1, 0, 1, 1, 0, 0, 1, 1, 0, 0, 1, 0, 1], Fm.block 2, Fm.code [1, 1, 1, 0, 0, 1, 1, 0, 0, 1, 0, 1], Fm.block 1, Fm.code [1, 1, 1, 0, 0, 1, 0, 1], Fm.loop [0, 1, 0, 1] 0, Fm.block 0, Fm.code [1, 1]] XT.normal [(0, true, AV.str s0), (1, true, AV.str s1), (5, true, AV.int IntKind.i64 i5), (6, true, AV.bool (decide ((↑(UInt8.toNat (List.getD s1 (Int.toNat i5) 0)) : Int) ≤ (↑(UInt8.toNat (List.getD s0 (Int.toNat (IntKind.wrap IntKind.i64 (i7 + 1))) 0)) : Int)))), (7, true, AV.int IntKind.i64 (IntKind.wrap IntKind.i64 (i7 + 2))), (9, true, AV.int IntKind.i64 i9), (10, true, AV.int IntKind.i64 i10)] []))) (ToEnd cfg 24 (bodyOf Tryd.f24) (RetIs Tryd.prog Tryd.f24 v) [Fm.code [0, 1, 0, 1, 1, 0, 0, 1, 1, 0, 0, 1, 0, 1], Fm.block 2, Fm.code [1, 1, 1, 0, 0, 1, 1, 0, 0, 1, 0, 1], Fm.block 1, Fm.code [1, 1, 1, 0, 0, 1, 0, 1], Fm.loop [0, 1, 0, 1] 0, Fm.block 0, Fm.code [1, 1]] XT.normal [(0, true, AV.str s0), (1, true, AV.str s1), (5, true, AV.int IntKind.i64 i5), (6, true, AV.bool false), (7, true, AV.int IntKind.i64 (IntKind.wrap IntKind.i64 (i7 + 2))), (9, true, AV.int IntKind.i64 i9), (10, true, AV.int IntKind.i64 i10)] []))))) (ifP (!b6) (AV.bool false = v) (ToEnd cfg 24 (bodyOf Tryd.f24) (RetIs Tryd.prog Tryd.f24 v) [Fm.code [0, 1, 0, 1], Fm.block 0, Fm.code [1, 1]] XT.normal [(0, true, AV.str s0), (1, true, AV.str s1), (9, true, AV.int IntKind.i64 i9), (10, true, AV.int IntKind.i64 (IntKind.wrap IntKind.i64 (i10 + 1)))] []))) :
    ToEnd cfg 24 (bodyOf Tryd.f24) (RetIs Tryd.prog Tryd.f24 v) ([.code [0, 1, 0, 1, 1, 0, 0, 1, 1, 0, 0, 1, 0, 1], Fm.block 2, Fm.code [1, 1, 1, 0, 0, 1, 1, 0, 0, 1, 0, 1], Fm.block 1, Fm.code [1, 1, 1, 0, 0, 1, 0, 1], Fm.loop [0, 1, 0, 1] 0, Fm.block 0, Fm.code [1, 1]]) .normal ([(0, true, AV.str s0), (1, true, AV.str s1), (5, true, AV.int IntKind.i64 i5), (6, true, AV.bool b6), (7, true, AV.int IntKind.i64 i7), (9, true, AV.int IntKind.i64 i9), (10, true, AV.int IntKind.i64 i10)]) ([]) := by
  have e : unr cfg 24 (bodyOf Tryd.f24) (ctab []) ⟨[[0, 1, 0, 1], [0, 1, 0, 1, 1, 0, 0, 1, 1, 0, 0, 1, 0, 1]], []⟩ (RetIs Tryd.prog Tryd.f24 v) 100000 ([.code [0, 0, 1, 0, 1, 1, 0, 0, 1, 1, 0, 0, 1, 0, 1], .loop [0, 1, 0, 1, 1, 0, 0, 1, 1, 0, 0, 1, 0, 1] 0, Fm.block 2, Fm.code [1, 1, 1, 0, 0, 1, 1, 0, 0, 1, 0, 1], Fm.block 1, Fm.code [1, 1, 1, 0, 0, 1, 0, 1], Fm.loop [0, 1, 0, 1] 0, Fm.block 0, Fm.code [1, 1]]) .normal ([(0, true, AV.str s0), (1, true, AV.str s1), (5, true, AV.int IntKind.i64 i5), (6, true, AV.bool b6), (7, true, AV.int IntKind.i64 i7), (9, true, AV.int IntKind.i64 i9), (10, true, AV.int IntKind.i64 i10)]) ([]) =
    (ifP (decide (i7 < (↑(List.length s0) : Int))) (ifP b6 (ToEnd cfg 24 (bodyOf Tryd.f24) (RetIs Tryd.prog Tryd.f24 v) [Fm.code [0, 1, 0, 1, 1, 0, 0, 1, 1, 0, 0, 1, 0, 1], Fm.block 2, Fm.code [1, 1, 1, 0, 0, 1, 1, 0, 0, 1, 0, 1], Fm.block 1, Fm.code [1, 1, 1, 0, 0, 1, 0, 1], Fm.loop [0, 1, 0, 1] 0, Fm.block 0, Fm.code [1, 1]] XT.normal [(0, true, AV.str s0), (1, true, AV.str s1), (5, true, AV.int IntKind.i64 i5), (6, true, AV.bool true), (7, true, AV.int IntKind.i64 (IntKind.wrap IntKind.i64 (i7 + 2))), (9, true, AV.int IntKind.i64 i9), (10, true, AV.int IntKind.i64 i10)] []) (gAnd (inR i5 (List.length s1)) (gAnd (inR i7 (List.length s0)) (ifP (decide ((↑(UInt8.toNat (List.getD s1 (Int.toNat i5) 0)) : Int) ≥ (↑(UInt8.toNat (List.getD s0 (Int.toNat i7) 0)) : Int))) (gAnd (inR i5 (List.length s1)) (gAnd (inR (IntKind.wrap IntKind.i64 (i7 + 1)) (List.length s0)) (ToEnd cfg 24 (bodyOf Tryd.f24) (RetIs Tryd.prog Tryd.f24 v) [Fm.code [0, 1, 0, 1, 1, 0, 0, 1, 1, 0, 0, 1, 0, 1], Fm.block 2, Fm.code [1, 1, 1, 0, 0, 1, 1, 0, 0, 1, 0, 1], Fm.block 1, Fm.code [1, 1, 1, 0, 0, 1, 0, 1], Fm.loop [0, 1, 0, 1] 0, Fm.block 0, Fm.code [1, 1]] XT.normal [(0, true, AV.str s0), (1, true, AV.str s1), (5, true, AV.int IntKind.i64 i5), (6, true, AV.bool (decide ((↑(UInt8.toNat (List.getD s1 (Int.toNat i5) 0)) : Int) ≤ (↑(UInt8.toNat (List.getD s0 (Int.toNat (IntKind.wrap IntKind.i64 (i7 + 1))) 0)) : Int)))), (7, true, AV.int IntKind.i64 (IntKind.wrap IntKind.i64 (i7 + 2))), (9, true, AV.int IntKind.i64 i9), (10, true, AV.int IntKind.i64 i10)] []))) (ToEnd cfg 24 (bodyOf Tryd.f24) (RetIs Tryd.prog Tryd.f24 v) [Fm.code [0, 1, 0, 1, 1, 0, 0, 1, 1, 0, 0, 1, 0, 1], Fm.block 2, Fm.code [1, 1, 1, 0, 0, 1, 1, 0, 0, 1, 0, 1], Fm.block 1, Fm.code [1, 1, 1, 0, 0, 1, 0, 1], Fm.loop [0, 1, 0, 1] 0, Fm.block 0, Fm.code [1, 1]] XT.normal [(0, true, AV.str s0), (1, true, AV.str s1), (5, true, AV.int IntKind.i64 i5), (6, true, AV.bool false), (7, true, AV.int IntKind.i64 (IntKind.wrap IntKind.i64 (i7 + 2))), (9, true, AV.int IntKind.i64 i9), (10, true, AV.int IntKind.i64 i10)] []))))) (ifP (!b6) (AV.bool false = v) (ToEnd cfg 24 (bodyOf Tryd.f24) (RetIs Tryd.prog Tryd.f24 v) [Fm.code [0, 1, 0, 1], Fm.block 0, Fm.code [1, 1]] XT.normal [(0, true, AV.str s0), (1, true, AV.str s1), (9, true, AV.int IntKind.i64 i9), (10, true, AV.int IntKind.i64 (IntKind.wrap IntKind.i64 (i10 + 1)))] []))) := by kernel_rfl
  exact ends_round hT 100000 (by kernel_rfl) (e.mpr H)

end Go.Proofs.YtahojaolkehojaaDoor
end

section
namespace Go.Proofs.YtahojaolkehojaaDoor
open Go.Ai Go
set_option linter.unusedSimpArgs false
set_option linter.unusedVariables false
set_option linter.unnecessarySimpa false
set_option maxRecDepth 100000

theorem pf41 : pureFn cfg 41 Tryd.f41 := ⟨by kernel_rfl, by kernel_rfl, by kernel_rfl, by kernel_rfl, by kernel_rfl, by kernel_rfl⟩
theorem pf33 : pureFn cfg 33 Tryd.f33 := ⟨by kernel_rfl, by kernel_rfl, by kernel_rfl, by kernel_rfl, by kernel_rfl, by kernel_rfl⟩
theorem pf42 : pureFn cfg 42 Tryd.f42 := ⟨by kernel_rfl, by kernel_rfl, by kernel_rfl, by kernel_rfl, by kernel_rfl, by kernel_rfl⟩
theorem pf39 : pureFn cfg 39 Tryd.f39 := ⟨by kernel_rfl, by kernel_rfl, by kernel_rfl, by kernel_rfl, by kernel_rfl, by kernel_rfl⟩
theorem pf43 : pureFn cfg 43 Tryd.f43 := ⟨by kernel_rfl, by kernel_rfl, by kernel_rfl, by kernel_rfl, by kernel_rfl, by kernel_rfl⟩
theorem pf25 : pureFn cfg 25 Tryd.f25 := ⟨by kernel_rfl, by kernel_rfl, by kernel_rfl, by kernel_rfl, by kernel_rfl, by kernel_rfl⟩
theorem pf28 : pureFn cfg 28 Tryd.f28 := ⟨by kernel_rfl, by kernel_rfl, by kernel_rfl, by kernel_rfl, by kernel_rfl, by kernel_rfl⟩
theorem pf24 : pureFn cfg 24 Tryd.f24 := ⟨by kernel_rfl, by kernel_rfl, by kernel_rfl, by kernel_rfl, by kernel_rfl, by kernel_rfl⟩
theorem pf29 : pureFn cfg 29 Tryd.f29 := ⟨by kernel_rfl, by kernel_rfl, by kernel_rfl, by kernel_rfl, by kernel_rfl, by kernel_rfl⟩
theorem pf34 : pureFn cfg 34 Tryd.f34 := ⟨by kernel_rfl, by kernel_rfl, by kernel_rfl, by kernel_rfl, by kernel_rfl, by kernel_rfl⟩
theorem pf58 : pureFn cfg 58 Tryd.f58 := ⟨by kernel_rfl, by kernel_rfl, by kernel_rfl, by kernel_rfl, by kernel_rfl, by kernel_rfl⟩
theorem pf49 : pureFn cfg 49 Tryd.f49 := ⟨by kernel_rfl, by kernel_rfl, by kernel_rfl, by kernel_rfl, by kernel_rfl, by kernel_rfl⟩
theorem pf40 : pureFn cfg 40 Tryd.f40 := ⟨by kernel_rfl, by kernel_rfl, by kernel_rfl, by kernel_rfl, by kernel_rfl, by kernel_rfl⟩
theorem pf35 : pureFn cfg 35 Tryd.f35 := ⟨by kernel_rfl, by kernel_rfl, by kernel_rfl, by kernel_rfl, by kernel_rfl, by kernel_rfl⟩
theorem pf27 : pureFn cfg 27 Tryd.f27 := ⟨by kernel_rfl, by kernel_rfl, by kernel_rfl, by kernel_rfl, by kernel_rfl, by kernel_rfl⟩
theorem pf30 : pureFn cfg 30 Tryd.f30 := ⟨by kernel_rfl, by kernel_rfl, by kernel_rfl, by kernel_rfl, by kernel_rfl, by kernel_rfl⟩
theorem pf37 : pureFn cfg 37 Tryd.f37 := ⟨by kernel_rfl, by kernel_rfl, by kernel_rfl, by kernel_rfl, by kernel_rfl, by kernel_rfl⟩

theorem bool_av {a b : Bool} (h : a = true ↔ b = true) : AV.bool a = AV.bool b := by
  have : a = b := Bool.eq_iff_iff.2 h
  rw [this]
theorem at_pre (pre : List UInt8) (c : UInt8) (r : List UInt8) : List.getD (pre ++ c :: r) (Int.toNat (pre.length : Int)) 0 = c := by simp
theorem wrap_n {n : Nat} (h : n ≤ big) : IntKind.wrap .i64 ((n : Int) + 1) = ((n + 1 : Nat) : Int) := by
  unfold big at h; rw [wrap_in] <;> omega

/-! Bytes -/
theorem c41 : COk cfg 41 (byteC isDg) := by
  refine cok_pure pf41 fun vs h K ht => ?_
  obtain ⟨c, rfl, hk⟩ := ht
  refine ⟨_, hk, t41 (ctab_ok ctab_nil) ?_⟩
  repeat' refine ifP_intro (fun _ => ?_) fun _ => ?_
  all_goals (refine bool_av ?_; simp only [isDg, decide_eq_true_eq, decide_eq_false_iff_not, Bool.and_eq_true, Bool.or_eq_true, Bool.false_eq_true, eq_self_iff_true, true_iff, false_iff] at *; omega)
theorem c33 : COk cfg 33 (byteC isDg) := by
  refine cok_pure pf33 fun vs h K ht => ?_
  obtain ⟨c, rfl, hk⟩ := ht
  refine ⟨_, hk, t33 (ctab_ok ctab_nil) ?_⟩
  repeat' refine ifP_intro (fun _ => ?_) fun _ => ?_
  all_goals (refine bool_av ?_; simp only [isDg, decide_eq_true_eq, decide_eq_false_iff_not, Bool.and_eq_true, Bool.or_eq_true, Bool.false_eq_true, eq_self_iff_true, true_iff, false_iff] at *; omega)
theorem c42 : COk cfg 42 (byteC letterB) := by
  refine cok_pure pf42 fun vs h K ht => ?_
  obtain ⟨c, rfl, hk⟩ := ht
  refine ⟨_, hk, t42 (ctab_ok ctab_nil) ?_⟩
  repeat' refine ifP_intro (fun _ => ?_) fun _ => ?_
  all_goals (refine bool_av ?_; simp only [letterB, decide_eq_true_eq, decide_eq_false_iff_not, Bool.and_eq_true, Bool.or_eq_true, Bool.false_eq_true, eq_self_iff_true, true_iff, false_iff] at *; omega)
theorem ix_nonneg : ∀ (l : List UInt8) (c : UInt8), (Lib.indexByte l c ≥ 0) ↔ l.contains c = true
  | [], c => by simp [Lib.indexByte]
  | b :: l, c => by
    have ih := ix_nonneg l c
    have hg := Lib.indexByte_ge l c
    rw [Lib.indexByte]
    by_cases h : b = c
    · subst h; simp
    · have h' : ¬c = b := fun e => h e.symm
      have hb : (b == c) = false := by simpa using h
      have hb' : (c == b) = false := by simpa using h'
      rw [List.contains_cons, hb', Bool.false_or, ← ih, hb]
      by_cases h1 : Lib.indexByte l c = -1
      · simp [h1]
      · have h2 : (Lib.indexByte l c == -1) = false := by simpa using h1
        simp only [h2, Bool.false_eq_true, if_false]
        omega
theorem c48 : COk cfg 48 ixC := by
  refine cok_prim (by kernel_rfl) (by kernel_rfl) (by kernel_rfl : cfg.prim 48 = some pByteIx) (by kernel_rfl) fun vs h K ht => ?_
  obtain ⟨s, c, rfl, hk⟩ := ht
  have := c.toNat_lt
  refine ⟨.int .i64 (Lib.indexByte s c), hk, ?_⟩
  have e : (c.toNat : Int).toNat.toUInt8 = c := by simp
  simp only [pByteIx, e]
  rw [decide_eq_true (by omega), decide_eq_true (by omega)]; rfl
theorem c39 : COk cfg 39 (byteC wordB) := by
  refine cok_pure pf39 fun vs h K ht => ?_
  obtain ⟨c, rfl, hk⟩ := ht
  refine ⟨_, hk, t39 (ctab_ok (ctab_cons c48 ctab_nil)) ?_⟩
  have hm := ix_nonneg marksB c
  generalize hq : decide (Lib.indexByte marksB c ≥ 0) = q
  have hq' : q = true ↔ marksB.contains c = true := by rw [← hq, decide_eq_true_eq]; exact hm
  repeat' refine ifP_intro (fun _ => ?_) fun _ => ?_
  all_goals first
    | refine ⟨marksB, c, rfl, ?_⟩
      rw [hq]
      refine bool_av ?_
      rw [hq']
      unfold wordB
      clear hq hq' hm
      generalize marksB.contains c = m
      cases m <;> simp only [decide_eq_true_eq, decide_eq_false_iff_not, Bool.and_eq_true, Bool.or_eq_true, Bool.false_eq_true, eq_self_iff_true, true_iff, false_iff, or_true, or_false] at * <;> omega
    | refine bool_av ?_
      simp only [wordB, decide_eq_true_eq, decide_eq_false_iff_not, Bool.and_eq_true, Bool.or_eq_true, Bool.false_eq_true, eq_self_iff_true, true_iff, false_iff] at *
      omega

/-! Texts -/
theorem loop43 (c : UInt8) : ∀ (r pre : List UInt8), (pre ++ r).length ≤ big →
    ToEnd cfg 43 (bodyOf Tryd.f43) (RetIs Tryd.prog Tryd.f43 (.bool (r.contains c))) [.code [0, 1, 0, 1], .block 0, .code [1, 1]] .normal [(0, true, .int .u8 c.toNat), (1, true, .str (pre ++ r)), (5, true, .int .i64 pre.length)] [] := by
  intro r
  induction r with
  | nil =>
    intro pre hl
    refine t43b (ctab_ok ctab_nil) (ifP_intro (fun a => ?_) fun _ => rfl)
    simp at a
  | cons x r ih =>
    intro pre hl
    have hlen : pre.length ≤ big := by simp at hl; omega
    refine t43b (ctab_ok ctab_nil) (ifP_intro (fun _ => gAnd_intro (inR_of (by omega) (by simp; omega)) ?_) fun a => ?_)
    · rw [at_pre]
      refine ifP_intro (fun b => ?_) fun b => ?_
      · have : x = c := by
          have hb : (x.toNat : Int) = c.toNat := by simpa using b
          exact UInt8.toNat_inj.1 (by omega)
        subst this
        simp
      · have hne : (c == x) = false := by
          rw [beq_eq_false_iff_ne]
          rintro rfl
          simp at b
        rw [wrap_n hlen, List.contains_cons, hne, Bool.false_or]
        have := ih (pre ++ [x]) (by simpa using hl)
        simpa using this
    · simp at a; omega
theorem c43 : COk cfg 43 inC := by
  refine cok_pure pf43 fun vs h K ht => ?_
  obtain ⟨c, s, hl, rfl, hk⟩ := ht
  exact ⟨_, hk, t43a (ctab_ok ctab_nil) (loop43 c s [] hl)⟩

theorem loop25 : ∀ (r pre : List UInt8), (pre ++ r).length ≤ big →
    ToEnd cfg 25 (bodyOf Tryd.f25) (RetIs Tryd.prog Tryd.f25 (.bool (r.all wordB && !(pre ++ r).isEmpty))) [.code [0, 1, 0, 1], .block 0, .code [1, 1]] .normal [(0, true, .str (pre ++ r)), (5, true, .int .i64 (pre ++ r).length), (6, true, .int .i64 pre.length)] [] := by
  have hT : TabOk cfg (ctab [(39, byteC wordB)]) := ctab_ok (ctab_cons c39 ctab_nil)
  intro r
  induction r with
  | nil =>
    intro pre hl
    refine t25b hT (ifP_intro (fun a => ?_) fun _ => ?_)
    · simp at a
    · refine bool_av ?_
      cases pre <;> simp
  | cons x r ih =>
    intro pre hl
    have hlen : pre.length ≤ big := by simp at hl; omega
    refine t25b hT (ifP_intro (fun _ => gAnd_intro (inR_of (by omega) (by simp; omega)) ⟨x, by rw [at_pre], ifP_intro (fun b => ?_) fun b => ?_⟩) fun a => ?_)
    · simp at b
      simp [b]
    · simp at b
      rw [wrap_n hlen]
      have := ih (pre ++ [x]) (by simpa using hl)
      simpa [b] using this
    · simp at a; omega
theorem c25 : COk cfg 25 (strC tokenB) := by
  refine cok_pure pf25 fun vs h K ht => ?_
  obtain ⟨s, hl, rfl, hk⟩ := ht
  exact ⟨_, hk, t25a (ctab_ok (ctab_cons c39 ctab_nil)) (loop25 s [] hl)⟩

theorem word_letter (c : UInt8) : wordB c = (letterB c || marksB.contains c) := by
  unfold wordB letterB
  cases decide (97 ≤ c.toNat) && decide (c.toNat ≤ 122) <;> cases decide (65 ≤ c.toNat) && decide (c.toNat ≤ 90) <;> simp
theorem loop28 : ∀ (r pre : List UInt8), (pre ++ r).length ≤ big →
    ToEnd cfg 28 (bodyOf Tryd.f28) (RetIs Tryd.prog Tryd.f28 (.bool (r.all wordB && !(pre ++ r).isEmpty))) [.code [0, 1, 0, 1], .block 0, .code [1, 1]] .normal [(0, true, .str (pre ++ r)), (3, true, .int .i64 pre.length)] [] := by
  have hT : TabOk cfg (ctab [(42, byteC letterB), (43, inC)]) := ctab_ok (ctab_cons c42 (ctab_cons c43 ctab_nil))
  intro r
  induction r with
  | nil =>
    intro pre hl
    refine t28b hT (ifP_intro (fun a => ?_) fun _ => ?_)
    · simp at a
    · refine bool_av ?_
      cases pre <;> simp
  | cons x r ih =>
    intro pre hl
    have hlen : pre.length ≤ big := by simp at hl; omega
    have hin : inR (pre.length : Int) (pre ++ x :: r).length = true := inR_of (by omega) (by simp; omega)
    have hnext := ih (pre ++ [x]) (by simpa using hl)
    refine t28b hT (ifP_intro (fun _ => gAnd_intro hin ⟨x, by rw [at_pre], ifP_intro (fun b => gAnd_intro hin ⟨x, marksB, by decide, by rw [at_pre]; rfl, ifP_intro (fun d => ?_) fun d => ?_⟩) fun b => ?_⟩) fun a => ?_)
    · have b' : letterB x = false := by simpa using b
      have d' : marksB.contains x = false := by simpa using d
      have : wordB x = false := by rw [word_letter, b', d']; rfl
      simp [this]
    · have d' : marksB.contains x = true := by simpa using d
      have hw : wordB x = true := by rw [word_letter, d', Bool.or_true]
      rw [wrap_n hlen]
      simpa [hw] using hnext
    · have b' : letterB x = true := by simpa using b
      have hw : wordB x = true := by rw [word_letter, b', Bool.true_or]
      rw [wrap_n hlen]
      simpa [hw] using hnext
    · simp at a; omega
theorem c28 : COk cfg 28 (strC tokenB) := by
  refine cok_pure pf28 fun vs h K ht => ?_
  obtain ⟨s, hl, rfl, hk⟩ := ht
  exact ⟨_, hk, t28a (ctab_ok (ctab_cons c42 (ctab_cons c43 ctab_nil))) (loop28 s [] hl)⟩

theorem loop29 : ∀ (r pre : List UInt8), (pre ++ r).length ≤ big →
    ToEnd cfg 29 (bodyOf Tryd.f29) (RetIs Tryd.prog Tryd.f29 (.bool (r.all targetB && !(pre ++ r).isEmpty))) [.code [0, 1, 0, 1], .block 0, .code [1, 1]] .normal [(0, true, .str (pre ++ r)), (3, true, .int .i64 pre.length)] [] := by
  have hT : TabOk cfg (ctab []) := ctab_ok ctab_nil
  intro r
  induction r with
  | nil =>
    intro pre hl
    refine t29b hT (ifP_intro (fun a => ?_) fun _ => ?_)
    · simp at a
    · refine bool_av ?_
      cases pre <;> simp
  | cons x r ih =>
    intro pre hl
    have hlen : pre.length ≤ big := by simp at hl; omega
    have hin : inR (pre.length : Int) (pre ++ x :: r).length = true := inR_of (by omega) (by simp; omega)
    have hnext := ih (pre ++ [x]) (by simpa using hl)
    refine t29b hT (ifP_intro (fun _ => gAnd_intro hin ?_) fun a => ?_)
    · rw [at_pre]
      refine ifP_intro (fun b => ?_) fun b => gAnd_intro hin (ifP_intro (fun d => ?_) fun d => ?_)
      · have : targetB x = false := by
          simp only [decide_eq_true_eq] at b
          simp only [targetB, Bool.and_eq_false_iff, decide_eq_false_iff_not]; omega
        simp [this]
      · have : targetB x = false := by
          simp only [decide_eq_true_eq] at d
          simp only [targetB, Bool.and_eq_false_iff, decide_eq_false_iff_not]; omega
        simp [this]
      · have : targetB x = true := by
          simp only [decide_eq_false_iff_not] at b d
          simp only [targetB, Bool.and_eq_true, decide_eq_true_eq]; omega
        rw [wrap_n hlen]
        simpa [this] using hnext
    · simp at a; omega
theorem c29 : COk cfg 29 (strC fun s => s.all targetB && !s.isEmpty) := by
  refine cok_pure pf29 fun vs h K ht => ?_
  obtain ⟨s, hl, rfl, hk⟩ := ht
  exact ⟨_, hk, t29a (ctab_ok ctab_nil) (loop29 s [] hl)⟩

theorem loop34 : ∀ (r pre : List UInt8), (pre ++ r).length ≤ big →
    ToEnd cfg 34 (bodyOf Tryd.f34) (RetIs Tryd.prog Tryd.f34 (.bool (r.all reasonB))) [.code [0, 1, 0, 1], .block 0, .code [1, 1]] .normal [(0, true, .str (pre ++ r)), (3, true, .int .i64 pre.length)] [] := by
  have hT : TabOk cfg (ctab []) := ctab_ok ctab_nil
  intro r
  induction r with
  | nil =>
    intro pre hl
    refine t34b hT (ifP_intro (fun a => ?_) fun _ => rfl)
    simp at a
  | cons x r ih =>
    intro pre hl
    have hlen : pre.length ≤ big := by simp at hl; omega
    have hin : inR (pre.length : Int) (pre ++ x :: r).length = true := inR_of (by omega) (by simp; omega)
    have hnext := ih (pre ++ [x]) (by simpa using hl)
    have hlt := x.toNat_lt
    have h9 : (x == 9) = decide (x.toNat = 9) := by
      rw [Bool.eq_iff_iff, beq_iff_eq, decide_eq_true_eq, ← UInt8.toNat_inj]; rfl
    have step : reasonB x = true → ToEnd cfg 34 (bodyOf Tryd.f34) (RetIs Tryd.prog Tryd.f34 (.bool ((x :: r).all reasonB))) [.code [0, 1, 0, 1], .block 0, .code [1, 1]] .normal [(0, true, .str (pre ++ x :: r)), (3, true, .int .i64 (IntKind.wrap .i64 ((pre.length : Int) + 1)))] [] := fun hb => by
      rw [wrap_n hlen]
      simpa [hb] using hnext
    have no : reasonB x = false → AV.bool false = AV.bool ((x :: r).all reasonB) := fun hb => by simp [hb]
    refine t34b hT (ifP_intro (fun _ => gAnd_intro hin ?_) fun a => ?_)
    · rw [at_pre]
      refine ifP_intro (fun b => gAnd_intro hin (ifP_intro (fun d => no ?_) fun d => gAnd_intro hin (ifP_intro (fun e => no ?_) fun e => step ?_))) fun b => gAnd_intro hin (ifP_intro (fun e => no ?_) fun e => step ?_)
      all_goals
        simp only [reasonB, h9, bne_iff_ne, ne_eq, decide_eq_true_eq, decide_eq_false_iff_not, beq_iff_eq, beq_eq_false_iff_ne, bne_eq_false_iff_eq, Bool.or_eq_false_iff, Bool.or_eq_true, Bool.and_eq_false_iff, Bool.and_eq_true] at *
        omega
    · simp at a; omega
theorem c34 : COk cfg 34 (strC fun s => s.all reasonB) := by
  refine cok_pure pf34 fun vs h K ht => ?_
  obtain ⟨s, hl, rfl, hk⟩ := ht
  exact ⟨_, hk, t34a (ctab_ok ctab_nil) (loop34 s [] hl)⟩
end Go.Proofs.YtahojaolkehojaaDoor
end

section
namespace Go.Proofs.YtahojaolkehojaaDoor
open Go.Ai Go
set_option linter.unusedSimpArgs false
set_option linter.unusedVariables false
set_option linter.unnecessarySimpa false
set_option maxRecDepth 100000

/-! Sorts -/
theorem in24 {l s : List UInt8} {c : UInt8} {v : AV} {i : Nat} (hi : i < s.length) (hs : s.length ≤ big) (hc : List.getD s i 0 = c) (hl : l.length ≤ 6) {res : Bool} (hno : res = false → AV.bool false = v)
    (hyes : res = true → ToEnd cfg 24 (bodyOf Tryd.f24) (RetIs Tryd.prog Tryd.f24 v) [.code [0, 1, 0, 1], .block 0, .code [1, 1]] .normal [(0, true, .str l), (1, true, .str s), (9, true, .int .i64 s.length), (10, true, .int .i64 ((i + 1 : Nat) : Int))] []) :
    ∀ (n : Nat) (lr lp : List UInt8) (b : Bool), lr.length = 2 * n → l = lp ++ lr → (b || inL lr c) = res →
    ToEnd cfg 24 (bodyOf Tryd.f24) (RetIs Tryd.prog Tryd.f24 v) [.code [0, 1, 0, 1, 1, 0, 0, 1, 1, 0, 0, 1, 0, 1], .block 2, .code [1, 1, 1, 0, 0, 1, 1, 0, 0, 1, 0, 1], .block 1, .code [1, 1, 1, 0, 0, 1, 0, 1], .loop [0, 1, 0, 1] 0, .block 0, .code [1, 1]] .normal
      [(0, true, .str l), (1, true, .str s), (5, true, .int .i64 i), (6, true, .bool b), (7, true, .int .i64 lp.length), (9, true, .int .i64 s.length), (10, true, .int .i64 i)] [] := by
  have hT : TabOk cfg (ctab []) := ctab_ok ctab_nil
  intro n
  induction n with
  | zero =>
    intro lr lp b hn hl' hb
    obtain rfl : lr = [] := List.eq_nil_of_length_eq_zero (by omega)
    rw [List.append_nil] at hl'
    subst hl'
    simp only [inL, Bool.or_false] at hb
    subst hb
    refine t24c hT (ifP_intro (fun a => ?_) fun _ => ifP_intro (fun a => hno (by simpa using a)) fun a => ?_)
    · simp at a
    · rw [wrap_n (by omega)]
      exact hyes (by simpa using a)
  | succ n ih =>
    intro lr lp b hn hl' hb
    match lr, hn with
    | x :: y :: lr, hn =>
      have hlen : lp.length + 2 + lr.length = l.length := by rw [hl']; simp; omega
      have hw2 : IntKind.wrap .i64 ((lp.length : Int) + 2) = (((lp ++ [x, y]).length : Nat) : Int) := by
        rw [wrap_in (by omega) (by omega)]; simp
      have hw1 : IntKind.wrap .i64 ((lp.length : Int) + 1) = ((lp.length + 1 : Nat) : Int) := wrap_n (by unfold big; omega)
      have hx : List.getD l (Int.toNat (lp.length : Int)) 0 = x := by rw [hl']; exact at_pre _ _ _
      have hy : List.getD l (Int.toNat ((lp.length + 1 : Nat) : Int)) 0 = y := by
        have := at_pre (lp ++ [x]) y lr
        rw [hl']
        simpa using this
      have hcc : List.getD s (Int.toNat (i : Int)) 0 = c := by simpa using hc
      have hn' : lr.length = 2 * n := by simp at hn; omega
      have hl2 : l = (lp ++ [x, y]) ++ lr := by rw [hl']; simp
      have hin : inR (i : Int) s.length = true := inR_of (by omega) (by omega)
      refine t24c hT (ifP_intro (fun _ => ?_) fun a => ?_)
      · rw [hw2]
        refine ifP_intro (fun a => ?_) fun a => ?_
        · subst a
          exact ih lr (lp ++ [x, y]) true hn' hl2 (by simpa using hb)
        · subst a
          rw [hw1, hx, hy, hcc]
          simp only [inL, Bool.false_or] at hb
          refine gAnd_intro hin (gAnd_intro (inR_of (by omega) (by omega)) (ifP_intro (fun d => gAnd_intro hin (gAnd_intro (inR_of (by omega) (by omega)) ?_)) fun d => ?_))
          · refine ih lr (lp ++ [x, y]) _ hn' hl2 ?_
            rw [← hb]
            simp only [decide_eq_true_eq] at d
            rw [decide_eq_true (p := x.toNat ≤ c.toNat) (by omega), Bool.true_and]
            congr 1
            rw [Bool.eq_iff_iff, decide_eq_true_eq, decide_eq_true_eq]
            omega
          · refine ih lr (lp ++ [x, y]) _ hn' hl2 ?_
            rw [← hb]
            simp only [decide_eq_false_iff_not] at d
            rw [decide_eq_false (p := x.toNat ≤ c.toNat) (by omega), Bool.false_and]
      · simp only [decide_eq_false_iff_not] at a; omega
theorem loop24 {l : List UInt8} (hl : l.length ≤ 6) (he : l.length % 2 = 0) : ∀ (r pre : List UInt8), (pre ++ r).length ≤ big →
    ToEnd cfg 24 (bodyOf Tryd.f24) (RetIs Tryd.prog Tryd.f24 (.bool (r.all (inL l)))) [.code [0, 1, 0, 1], .block 0, .code [1, 1]] .normal [(0, true, .str l), (1, true, .str (pre ++ r)), (9, true, .int .i64 (pre ++ r).length), (10, true, .int .i64 pre.length)] [] := by
  have hT : TabOk cfg (ctab []) := ctab_ok ctab_nil
  intro r
  induction r with
  | nil =>
    intro pre hp
    refine t24b hT (ifP_intro (fun a => ?_) fun _ => rfl)
    simp at a
  | cons x r ih =>
    intro pre hp
    have hlen : pre.length < (pre ++ x :: r).length := by simp
    refine t24b hT (ifP_intro (fun _ => ?_) fun a => ?_)
    · refine in24 (c := x) (i := pre.length) (res := inL l x) hlen hp (by simp) hl (fun h => by simp [h]) (fun h => ?_) (l.length / 2) l [] false (by omega) rfl (Bool.false_or _)
      have := ih (pre ++ [x]) (by simpa using hp)
      simpa [h] using this
    · simp only [decide_eq_false_iff_not] at a; omega
theorem c24 : COk cfg 24 holdsC := by
  refine cok_pure pf24 fun vs h K ht => ?_
  obtain ⟨l, s, h1, h2, h3, rfl, hk⟩ := ht
  exact ⟨_, hk, t24a (ctab_ok ctab_nil) (loop24 h1 h2 s [] h3)⟩
theorem in_target (c : UInt8) : inL [33, 126] c = targetB c := by simp [inL, targetB]
theorem in_digit (c : UInt8) : inL [48, 57] c = isDg c := by simp [inL, isDg]
theorem in_reason (c : UInt8) : inL [9, 9, 32, 126, 128, 255] c = reasonB c := by
  have hlt := c.toNat_lt
  have h9 : (c == 9) = decide (c.toNat = 9) := by
    rw [Bool.eq_iff_iff, beq_iff_eq, decide_eq_true_eq, ← UInt8.toNat_inj]; rfl
  unfold reasonB
  rw [h9, Bool.eq_iff_iff]
  simp [inL]
  omega

/-! Prefixes -/
theorem pref_take : ∀ (x s : List UInt8), x.isPrefixOf s = (decide (x.length ≤ s.length) && (s.take x.length == x))
  | [], s => by simp
  | a :: x, [] => by simp
  | a :: x, b :: s => by
    have := pref_take x s
    simp only [List.isPrefixOf_cons_cons, this, List.length_cons, List.take_succ_cons, List.cons_beq_cons]
    rw [show (decide (x.length + 1 ≤ s.length + 1)) = decide (x.length ≤ s.length) from by simp, show (a == b) = (b == a) from by rw [Bool.eq_iff_iff]; simp; exact eq_comm]
    cases (b == a) <;> cases decide (x.length ≤ s.length) <;> simp
theorem c58 : COk cfg 58 Ai.prefC := by
  refine cok_pure pf58 fun vs h K ht => ?_
  obtain ⟨s, x, rfl, hk⟩ := ht
  refine ⟨_, hk, t58 (ctab_ok ctab_nil) (ifP_intro (fun a => gAnd_intro ?_ ?_) fun a => ?_)⟩
  · simp [cutOb] at a ⊢; omega
  · simp at a
    rw [pref_take, decide_eq_true (by omega), Bool.true_and]
    simp [cutL]
  · simp at a
    rw [pref_take, decide_eq_false (by omega), Bool.false_and]
theorem pref_le {x s : List UInt8} (h : x.isPrefixOf s = true) : x.length ≤ s.length := by
  rw [pref_take, Bool.and_eq_true, decide_eq_true_eq] at h; exact h.1
theorem c49 : COk cfg 49 cutPC := by
  refine cok_pure pf49 fun vs h K ht => ?_
  obtain ⟨s, x, rfl, hk⟩ := ht
  refine ⟨_, hk, t49 (ctab_ok (ctab_cons c58 ctab_nil)) ⟨s, x, rfl, ifP_intro (fun a => ?_) fun a => ?_⟩⟩
  · have a' : x.isPrefixOf s = false := by simpa using a
    simp only [cutP, a', cond_false]
  · have a' : x.isPrefixOf s = true := by simpa using a
    refine gAnd_intro (by have := pref_le a'; simp [cutOb]; omega) ?_
    simp only [cutP, a', cond_true, cutL, Int.toNat_natCast]
theorem c40 : COk cfg 40 cutPC := by
  refine cok_pure pf40 fun vs h K ht => ?_
  obtain ⟨s, x, rfl, hk⟩ := ht
  exact ⟨_, hk, t40 (ctab_ok (ctab_cons c49 ctab_nil)) ⟨s, x, rfl, rfl⟩⟩

theorem c35 : COk cfg 35 doneC := by
  refine cok_pure pf35 fun vs h K ht => ?_
  obtain ⟨mi, bad, s, hs, rfl, hk⟩ := ht
  refine ⟨_, hk, t35 (ctab_ok ctab_nil) ?_⟩
  unfold doneB
  refine ifP_intro (fun a => ?_) fun a => ifP_intro (fun b => ?_) fun b => ifP_intro (fun c => ?_) fun c => ifP_intro (fun d => ?_) fun d => ?_
  · rw [if_pos (by simp [a])]
  · rw [if_pos (by simp at b; simp [b])]
  · rw [if_pos (by simp at c; simp [c])]
  · simp at b c d
    rw [if_neg (by simp [a]; omega), if_pos (by omega)]
  · simp at b c d
    rw [if_neg (by simp [a]; omega), if_neg (by omega)]

theorem c37 : COk cfg 37 versC := by
  refine cok_pure pf37 fun vs h K ht => ?_
  obtain ⟨n, rfl, hk⟩ := ht
  unfold verM at hk
  refine ⟨_, hk, t37 (ctab_ok ctab_nil) (ifP_intro (fun a => ?_) fun a => ?_)⟩
  · have : n = 0 := by simpa using a
    rw [if_pos this]; rfl
  · have : ¬n = 0 := by simpa using a
    rw [if_neg this]; rfl
theorem c30 : COk cfg 30 minorC := by
  refine cok_pure pf30 fun vs h K ht => ?_
  obtain ⟨s, hs, rfl, hk⟩ := ht
  refine ⟨_, hk, t30 (ctab_ok ctab_nil) (gAnd_intro (inR_of (by omega) (by omega)) (ifP_intro (fun a => ?_) fun a => ?_))⟩
  · rw [if_pos (UInt8.toNat_inj.1 (by have : ((s.getD 7 0).toNat : Int) = 48 := by simpa using a
                                      show (s.getD 7 0).toNat = 48; omega))]
  · rw [if_neg fun e => by rw [e] at a; simp at a]
/-- Is a text a version? -/
def isVer (s : List UInt8) : Bool := (verOf s).isSome
theorem ver_eight (a b c d e x f y : UInt8) : isVer [a, b, c, d, e, x, f, y] = (([a, b, c, d, e] == [72, 84, 84, 80, 47]) && isDg x && (f == 46) && isDg y) := by
  unfold isVer
  cases h : ([a, b, c, d, e] == [72, 84, 84, 80, 47]) with
  | true =>
    have h' : [a, b, c, d, e] = [72, 84, 84, 80, 47] := by simpa using h
    simp only [List.cons.injEq, and_true] at h'
    obtain ⟨rfl, rfl, rfl, rfl, rfl⟩ := h'
    by_cases hf : f = 46
    · subst hf
      cases hx : isDg x <;> cases hy : isDg y <;> simp [verOf, hx, hy]
    · have : (f == 46) = false := by simpa using hf
      rw [this]
      have hn : verOf [72, 84, 84, 80, 47, x, f, y] = none := by
        cases hv : verOf [72, 84, 84, 80, 47, x, f, y] with
        | none => rfl
        | some p =>
          have := (verOf_some (a := p.1) (b := p.2) hv).1
          simp only [List.cons.injEq] at this
          exact absurd this.2.2.2.2.2.2.1 hf
      rw [hn]; simp
  | false =>
    have hn : verOf [a, b, c, d, e, x, f, y] = none := by
      cases hv : verOf [a, b, c, d, e, x, f, y] with
      | none => rfl
      | some p =>
        have := (verOf_some (a := p.1) (b := p.2) hv).1
        simp only [List.cons.injEq] at this
        obtain ⟨rfl, rfl, rfl, rfl, rfl, _⟩ := this
        simp at h
    rw [hn]; rfl
theorem ver_not8 {s : List UInt8} (h : s.length ≠ 8) : verOf s = none := by
  cases hv : verOf s with
  | none => rfl
  | some p =>
    have := (verOf_some (a := p.1) (b := p.2) hv).1
    rw [this] at h
    exact absurd rfl h
theorem eight {s : List UInt8} (h : s.length = 8) : ∃ a b c d e x f y, s = [a, b, c, d, e, x, f, y] := by
  match s, h with
  | [a, b, c, d, e, x, f, y], _ => exact ⟨_, _, _, _, _, _, _, _, rfl⟩
theorem c27 : COk cfg 27 (strC isVer) := by
  refine cok_pure pf27 fun vs h K ht => ?_
  obtain ⟨s, hs, rfl, hk⟩ := ht
  refine ⟨_, hk, t27 (ctab_ok (ctab_cons c33 ctab_nil)) (ifP_intro (fun ha => ?_) fun ha => ?_)⟩
  · have a' : s.length = 8 := by
      have : (s.length : Int) = 8 := by simpa using ha
      omega
    obtain ⟨a, b, c, d, e, x, f, y, rfl⟩ := eight a'
    rw [ver_eight]
    refine gAnd_intro (by simp [cutOb]) (ifP_intro (fun k => gAnd_intro (inR_of (by omega) (by simp)) ⟨x, rfl, ifP_intro (fun m => gAnd_intro (inR_of (by omega) (by simp)) (ifP_intro (fun n => gAnd_intro (inR_of (by omega) (by simp)) ⟨y, rfl, ?_⟩) fun n => ?_)) fun m => ?_⟩) fun k => ?_)
    · have k' : ([a, b, c, d, e] == [72, 84, 84, 80, 47]) = true := k
      have n' : (f == 46) = true := by
        rw [beq_iff_eq, ← UInt8.toNat_inj]
        have : (f.toNat : Int) = 46 := by simpa using n
        show f.toNat = 46; omega
      rw [k', m, n']; simp
    · have n' : (f == 46) = false := by
        rw [beq_eq_false_iff_ne]
        rintro rfl
        simp at n
      rw [n']; simp
    · rw [m]; simp
    · have k' : ([a, b, c, d, e] == [72, 84, 84, 80, 47]) = false := k
      rw [k']; rfl
  · have a' : s.length ≠ 8 := by
      intro e
      rw [e] at ha
      simp at ha
    unfold isVer
    rw [ver_not8 a']; rfl

/-! Library functions -/
theorem idx_blank : ∀ (s : List UInt8) (i : Nat), (idxB s [32] i = -1 ∧ cutB s = (s, [], false)) ∨ ∃ m r, s = m ++ 32 :: r ∧ idxB s [32] i = ((i + m.length : Nat) : Int) ∧ cutB s = (m, r, true)
  | [], i => .inl ⟨rfl, rfl⟩
  | c :: s, i => by
    rw [idxB]
    by_cases h : c = 32
    · subst h
      exact .inr ⟨[], s, rfl, by simp, by simp [cutB]⟩
    · have hp : List.isPrefixOf [32] (c :: s) = false := by
        simp only [List.isPrefixOf_cons_cons, List.isPrefixOf_nil_left, Bool.and_true]
        rw [beq_eq_false_iff_ne]
        exact fun e => h e.symm
      rw [hp]
      rcases idx_blank s (i + 1) with ⟨h1, h2⟩ | ⟨m, r, h1, h2, h3⟩
      · exact .inl ⟨h1, by simp only [cutB, if_neg h, h2]⟩
      · refine .inr ⟨c :: m, r, by rw [h1]; rfl, ?_, by simp only [cutB, if_neg h, h3]⟩
        show idxB s [32] (i + 1) = _
        rw [h2]; simp; omega
theorem cutS_blank (s : List UInt8) : cutS s [32] = cutB s := by
  unfold cutS
  rcases idx_blank s 0 with ⟨h1, h2⟩ | ⟨m, r, h1, h2, h3⟩
  · rw [h1, h2]; rfl
  · rw [h2, h3]
    rw [decide_eq_true (by omega)]
    simp [h1]
theorem c38 : COk cfg 38 cutC := by
  refine cok_prim (by kernel_rfl) (by kernel_rfl) (by kernel_rfl : cfg.prim 38 = some pCut) (by kernel_rfl) fun vs h K ht => ?_
  obtain ⟨s, hs, rfl, hk⟩ := ht
  refine ⟨.tup [.str (cutB s).1, .str (cutB s).2.1, .bool (cutB s).2.2], hk, ?_⟩
  simp only [pCut, cutS_blank]
  have : Nat.blt s.length 4294967281 = true := Nat.ble_eq_true_of_le (by unfold big at hs; omega)
  rw [this]
theorem c36 : COk cfg 36 itoaC := by
  refine cok_prim (by kernel_rfl) (by kernel_rfl) (by kernel_rfl : cfg.prim 36 = some pItoa) (by kernel_rfl) fun vs h K ht => ?_
  obtain ⟨n, h1, h2, rfl, hk⟩ := ht
  refine ⟨.str (itoaS n), hk, ?_⟩
  simp only [pItoa]
  rw [decide_eq_true h1, decide_eq_true h2]; rfl
theorem c32 : COk cfg 32 atoiC := by
  refine cok_prim (by kernel_rfl) (by kernel_rfl) (by kernel_rfl : cfg.prim 32 = some pAtoi) (by kernel_rfl) fun vs h K ht => ?_
  obtain ⟨s, hs, rfl, hk⟩ := ht
  refine ⟨.tup [.int .i64 (atoiV s), .top], hk, ?_⟩
  simp only [pAtoi]
  have : Nat.blt s.length 4294967281 = true := Nat.ble_eq_true_of_le (by unfold big at hs; omega)
  rw [this]
end Go.Proofs.YtahojaolkehojaaDoor
end
