/-
  Runs of functions of bodies in chunks, printed by a home tool; each is the kernel's word.
  Bodies in chunks: the statements, but the examples: the functions keep to their contracts.
-/
import Derived.Test.YtnncfdlpogjlkaaDoorCfg
import Derived.Test.YtnncfdlpogjlkaaDoorJCa
import Derived.Test.YtnncfdlpogjlkaaDoorJCd
import Derived.Test.YtnncfdlpogjlkaaDoorJCe
section
namespace Go.Proofs.YtnncfdlpogjlkaaDoor
open Go.Ai Go
set_option maxRecDepth 100000
set_option linter.unusedVariables false
theorem t27a {v : AV} {e d : List (List AV)} {sz sy : Nat} (hT : TabOk cfg (ctab [])) (H :
    ifP ((↑(List.length e) : Int) != (↑(List.length d) : Int)) (AV.bool false = v) (ToEnd cfg 27 (bodyOf Tryd.f27) (RetIs Tryd.prog Tryd.f27 v) [Fm.code [0, 1, 0, 1, 1], Fm.block 0, Fm.code [1, 1, 1]] XT.normal [(0, true, AV.sl sz e none), (1, true, AV.sl sy d none), (5, true, AV.int IntKind.i64 0)] [])) :
    ToEnd cfg 27 (bodyOf Tryd.f27) (RetIs Tryd.prog Tryd.f27 v) ([.code []]) .normal ([(0, true, .sl sz e none), (1, true, .sl sy d none)]) ([]) := by
  have e : unr cfg 27 (bodyOf Tryd.f27) (ctab []) ⟨[[0, 1, 0, 1, 1]], [([0, 0, 0, 1, 0, 0, 1, 0, 1, 1], 2, [.str, .str]), ([0, 0, 0, 1, 0, 0, 1, 0, 1, 1], 6, [.str, .str])]⟩ (RetIs Tryd.prog Tryd.f27 v) 100000 ([.code []]) .normal ([(0, true, .sl sz e none), (1, true, .sl sy d none)]) ([]) =
    (ifP ((↑(List.length e) : Int) != (↑(List.length d) : Int)) (AV.bool false = v) (ToEnd cfg 27 (bodyOf Tryd.f27) (RetIs Tryd.prog Tryd.f27 v) [Fm.code [0, 1, 0, 1, 1], Fm.block 0, Fm.code [1, 1, 1]] XT.normal [(0, true, AV.sl sz e none), (1, true, AV.sl sy d none), (5, true, AV.int IntKind.i64 0)] [])) := by kernel_rfl
  exact unr_ok hT 100000 _ _ _ _ (e.mpr H)

theorem t27b {v : AV} {e d : List (List AV)} {sz sy : Nat} {i5 : Int} (hT : TabOk cfg (ctab [])) (H :
    ifP (decide (i5 < (↑(List.length e) : Int))) (gAnd (inR i5 (List.length e) && Nat.beq sz 2 && Nat.ble 1 sz) (∃ (s1 : List UInt8), ∃ (s2 : List UInt8), getE e i5 = [AV.str s1, AV.str s2] ∧ gAnd (inR i5 (List.length d) && Nat.beq sy 2 && Nat.ble 1 sy) (∃ (s3 : List UInt8), ∃ (s4 : List UInt8), getE d i5 = [AV.str s3, AV.str s4] ∧ ifP (!(s1 == s3 && (s2 == s4 && true))) (AV.bool false = v) (ToEnd cfg 27 (bodyOf Tryd.f27) (RetIs Tryd.prog Tryd.f27 v) [Fm.code [0, 1, 0, 1, 1], Fm.block 0, Fm.code [1, 1, 1]] XT.normal [(0, true, AV.sl sz e none), (1, true, AV.sl sy d none), (5, true, AV.int IntKind.i64 (IntKind.wrap IntKind.i64 (i5 + 1)))] [])))) (AV.bool true = v)) :
    ToEnd cfg 27 (bodyOf Tryd.f27) (RetIs Tryd.prog Tryd.f27 v) ([.code [0, 1, 0, 1, 1], Fm.block 0, Fm.code [1, 1, 1]]) .normal ([(0, true, AV.sl sz e none), (1, true, AV.sl sy d none), (5, true, AV.int IntKind.i64 i5)]) ([]) := by
  have e : unr cfg 27 (bodyOf Tryd.f27) (ctab []) ⟨[[0, 1, 0, 1, 1]], [([0, 0, 0, 1, 0, 0, 1, 0, 1, 1], 2, [.str, .str]), ([0, 0, 0, 1, 0, 0, 1, 0, 1, 1], 6, [.str, .str])]⟩ (RetIs Tryd.prog Tryd.f27 v) 100000 ([.code [0, 0, 1, 0, 1, 1], .loop [0, 1, 0, 1, 1] 0, Fm.block 0, Fm.code [1, 1, 1]]) .normal ([(0, true, AV.sl sz e none), (1, true, AV.sl sy d none), (5, true, AV.int IntKind.i64 i5)]) ([]) =
    (ifP (decide (i5 < (↑(List.length e) : Int))) (gAnd (inR i5 (List.length e) && Nat.beq sz 2 && Nat.ble 1 sz) (∃ (s1 : List UInt8), ∃ (s2 : List UInt8), getE e i5 = [AV.str s1, AV.str s2] ∧ gAnd (inR i5 (List.length d) && Nat.beq sy 2 && Nat.ble 1 sy) (∃ (s3 : List UInt8), ∃ (s4 : List UInt8), getE d i5 = [AV.str s3, AV.str s4] ∧ ifP (!(s1 == s3 && (s2 == s4 && true))) (AV.bool false = v) (ToEnd cfg 27 (bodyOf Tryd.f27) (RetIs Tryd.prog Tryd.f27 v) [Fm.code [0, 1, 0, 1, 1], Fm.block 0, Fm.code [1, 1, 1]] XT.normal [(0, true, AV.sl sz e none), (1, true, AV.sl sy d none), (5, true, AV.int IntKind.i64 (IntKind.wrap IntKind.i64 (i5 + 1)))] [])))) (AV.bool true = v)) := by kernel_rfl
  exact ends_round hT 100000 (by kernel_rfl) (e.mpr H)

theorem t31 {v : AV} {s b : List UInt8} {m u t : Int} (hT : TabOk cfg (ctab [(25, decC)])) (H :
    ∃ (s1 : List UInt8), ∃ (m2 : Int), List.length s1 ≤ 10000000 ∧ -9223372036854775808 ≤ m2 ∧ m2 ≤ 9223372036854775807 ∧ [AV.str s, AV.int IntKind.i64 m] = [AV.str s1, AV.int IntKind.i64 m2] ∧ ifP (Dec.body (decA s1 m2) == b) (ifP ((↑(Dec.used (decA s1 m2)) : Int) == u) (ifP ((↑(List.length (encFs (Dec.tr (decA s1 m2)))) : Int) == t) (AV.bool (Dec.e (decA s1 m2) == 0) = v) (AV.bool false = v)) (AV.bool false = v)) (AV.bool false = v)) :
    ToEnd cfg 31 (bodyOf Tryd.f31) (RetIs Tryd.prog Tryd.f31 v) ([.code []]) .normal ([(0, true, .str s), (1, true, .int .i64 m), (2, true, .str b), (3, true, .int .i64 u), (4, true, .int .i64 t)]) ([]) := by
  have e : unr cfg 31 (bodyOf Tryd.f31) (ctab [(25, decC)]) ⟨[], []⟩ (RetIs Tryd.prog Tryd.f31 v) 100000 ([.code []]) .normal ([(0, true, .str s), (1, true, .int .i64 m), (2, true, .str b), (3, true, .int .i64 u), (4, true, .int .i64 t)]) ([]) =
    (∃ (s1 : List UInt8), ∃ (m2 : Int), List.length s1 ≤ 10000000 ∧ -9223372036854775808 ≤ m2 ∧ m2 ≤ 9223372036854775807 ∧ [AV.str s, AV.int IntKind.i64 m] = [AV.str s1, AV.int IntKind.i64 m2] ∧ ifP (Dec.body (decA s1 m2) == b) (ifP ((↑(Dec.used (decA s1 m2)) : Int) == u) (ifP ((↑(List.length (encFs (Dec.tr (decA s1 m2)))) : Int) == t) (AV.bool (Dec.e (decA s1 m2) == 0) = v) (AV.bool false = v)) (AV.bool false = v)) (AV.bool false = v)) := by kernel_rfl
  exact unr_ok hT 100000 _ _ _ _ (e.mpr H)

theorem t32 {v : AV} {s : List UInt8} {m w : Int} (hT : TabOk cfg (ctab [(25, decC)])) (H :
    ∃ (s1 : List UInt8), ∃ (m2 : Int), List.length s1 ≤ 10000000 ∧ -9223372036854775808 ≤ m2 ∧ m2 ≤ 9223372036854775807 ∧ [AV.str s, AV.int IntKind.i64 m] = [AV.str s1, AV.int IntKind.i64 m2] ∧ ifP (Dec.body (decA s1 m2) == []) (ifP ((↑(Dec.used (decA s1 m2)) : Int) == 0) (ifP ((↑(List.length (encFs (Dec.tr (decA s1 m2)))) : Int) == 0) (AV.bool (Dec.e (decA s1 m2) == w) = v) (AV.bool false = v)) (AV.bool false = v)) (AV.bool false = v)) :
    ToEnd cfg 32 (bodyOf Tryd.f32) (RetIs Tryd.prog Tryd.f32 v) ([.code []]) .normal ([(0, true, .str s), (1, true, .int .i64 m), (2, true, .int .i64 w)]) ([]) := by
  have e : unr cfg 32 (bodyOf Tryd.f32) (ctab [(25, decC)]) ⟨[], []⟩ (RetIs Tryd.prog Tryd.f32 v) 100000 ([.code []]) .normal ([(0, true, .str s), (1, true, .int .i64 m), (2, true, .int .i64 w)]) ([]) =
    (∃ (s1 : List UInt8), ∃ (m2 : Int), List.length s1 ≤ 10000000 ∧ -9223372036854775808 ≤ m2 ∧ m2 ≤ 9223372036854775807 ∧ [AV.str s, AV.int IntKind.i64 m] = [AV.str s1, AV.int IntKind.i64 m2] ∧ ifP (Dec.body (decA s1 m2) == []) (ifP ((↑(Dec.used (decA s1 m2)) : Int) == 0) (ifP ((↑(List.length (encFs (Dec.tr (decA s1 m2)))) : Int) == 0) (AV.bool (Dec.e (decA s1 m2) == w) = v) (AV.bool false = v)) (AV.bool false = v)) (AV.bool false = v)) := by kernel_rfl
  exact unr_ok hT 100000 _ _ _ _ (e.mpr H)

theorem t30a {v : AV} {n : Int} (hT : TabOk cfg (ctab [])) (H :
    gAnd (decide (0 ≤ n) && decide (n = n) && decide (1 * n ≤ 281474976710656) && decide (n ≤ 9223372036854775807) && true && true && true) (ToEnd cfg 30 (bodyOf Tryd.f30) (RetIs Tryd.prog Tryd.f30 v) [Fm.code [0, 1, 0, 1, 1], Fm.block 0, Fm.code [1, 1, 1]] XT.normal [(0, true, AV.int IntKind.i64 n), (3, true, AV.osl 1 0 (Int.toNat n) 1), (4, true, AV.int IntKind.i64 0)] [Blk.grow 0 1 5, Blk.mem 5 (List.replicate (Int.toNat n) (ofConst (Value.int IntKind.u8 0)))])) :
    ToEnd cfg 30 (bodyOf Tryd.f30) (RetIs Tryd.prog Tryd.f30 v) ([.code []]) .normal ([(0, true, .int .i64 n)]) ([]) := by
  have e : unr cfg 30 (bodyOf Tryd.f30) (ctab []) ⟨[[0, 1, 0, 1, 1]], []⟩ (RetIs Tryd.prog Tryd.f30 v) 100000 ([.code []]) .normal ([(0, true, .int .i64 n)]) ([]) =
    (gAnd (decide (0 ≤ n) && decide (n = n) && decide (1 * n ≤ 281474976710656) && decide (n ≤ 9223372036854775807) && true && true && true) (ToEnd cfg 30 (bodyOf Tryd.f30) (RetIs Tryd.prog Tryd.f30 v) [Fm.code [0, 1, 0, 1, 1], Fm.block 0, Fm.code [1, 1, 1]] XT.normal [(0, true, AV.int IntKind.i64 n), (3, true, AV.osl 1 0 (Int.toNat n) 1), (4, true, AV.int IntKind.i64 0)] [Blk.grow 0 1 5, Blk.mem 5 (List.replicate (Int.toNat n) (ofConst (Value.int IntKind.u8 0)))])) := by kernel_rfl
  exact unr_ok hT 100000 _ _ _ _ (e.mpr H)

theorem t7 {v : AV} {s : List UInt8} {m : Int} (hT : TabOk cfg (ctab [(24, Ai.trueC), (25, decC), (26, decRC), (27, sameFsC)])) (H :
    ifP (decide ((↑(List.length s) : Int) > 20000)) (true = true ∧ AV.bool true = v) (∃ (s1 : List UInt8), ∃ (m2 : Int), List.length s1 ≤ 10000000 ∧ -9223372036854775808 ≤ m2 ∧ m2 ≤ 9223372036854775807 ∧ [AV.str s, AV.int IntKind.i64 m] = [AV.str s1, AV.int IntKind.i64 m2] ∧ ∃ (s3 : List UInt8), ∃ (m4 : Int), List.length s3 ≤ 100000 ∧ -9223372036854775808 ≤ m4 ∧ m4 ≤ 9223372036854775807 ∧ [AV.str s, AV.int IntKind.i64 m] = [AV.str s3, AV.int IntKind.i64 m4] ∧ ifP (Dec.body (decA s1 m2) == Dec.body (decA s3 m4)) (ifP ((↑(Dec.used (decA s1 m2)) : Int) == (↑(Dec.used (decA s3 m4)) : Int)) (∃ (a5 : List Fld), ∃ (b6 : List Fld), ∃ (sz7 : Nat), ∃ (sy8 : Nat), List.length a5 ≤ 10000000 ∧ szOk sz7 2 (List.length a5) ∧ szOk sy8 2 (List.length b6) ∧ [AV.sl 2 (stripss 0 [] (encFs (Dec.tr (decA s1 m2)))) none, AV.sl 2 (stripss 0 [] (encFs (Dec.tr (decA s3 m4)))) none] = [AV.sl sz7 (encFs a5) none, AV.sl sy8 (encFs b6) none] ∧ ifP (sameFs a5 b6) (ifP (Dec.e (decA s1 m2) == Dec.e (decA s3 m4)) (true = true ∧ AV.bool true = v) (AV.bool false = v)) (AV.bool false = v)) (AV.bool false = v)) (AV.bool false = v))) :
    ToEnd cfg 7 (bodyOf Tryd.f7) (RetIs Tryd.prog Tryd.f7 v) ([.code []]) .normal ([(0, true, .str s), (1, true, .int .i64 m)]) ([]) := by
  have e : unr cfg 7 (bodyOf Tryd.f7) (ctab [(24, Ai.trueC), (25, decC), (26, decRC), (27, sameFsC)]) ⟨[], []⟩ (RetIs Tryd.prog Tryd.f7 v) 100000 ([.code []]) .normal ([(0, true, .str s), (1, true, .int .i64 m)]) ([]) =
    (ifP (decide ((↑(List.length s) : Int) > 20000)) (true = true ∧ AV.bool true = v) (∃ (s1 : List UInt8), ∃ (m2 : Int), List.length s1 ≤ 10000000 ∧ -9223372036854775808 ≤ m2 ∧ m2 ≤ 9223372036854775807 ∧ [AV.str s, AV.int IntKind.i64 m] = [AV.str s1, AV.int IntKind.i64 m2] ∧ ∃ (s3 : List UInt8), ∃ (m4 : Int), List.length s3 ≤ 100000 ∧ -9223372036854775808 ≤ m4 ∧ m4 ≤ 9223372036854775807 ∧ [AV.str s, AV.int IntKind.i64 m] = [AV.str s3, AV.int IntKind.i64 m4] ∧ ifP (Dec.body (decA s1 m2) == Dec.body (decA s3 m4)) (ifP ((↑(Dec.used (decA s1 m2)) : Int) == (↑(Dec.used (decA s3 m4)) : Int)) (∃ (a5 : List Fld), ∃ (b6 : List Fld), ∃ (sz7 : Nat), ∃ (sy8 : Nat), List.length a5 ≤ 10000000 ∧ szOk sz7 2 (List.length a5) ∧ szOk sy8 2 (List.length b6) ∧ [AV.sl 2 (stripss 0 [] (encFs (Dec.tr (decA s1 m2)))) none, AV.sl 2 (stripss 0 [] (encFs (Dec.tr (decA s3 m4)))) none] = [AV.sl sz7 (encFs a5) none, AV.sl sy8 (encFs b6) none] ∧ ifP (sameFs a5 b6) (ifP (Dec.e (decA s1 m2) == Dec.e (decA s3 m4)) (true = true ∧ AV.bool true = v) (AV.bool false = v)) (AV.bool false = v)) (AV.bool false = v)) (AV.bool false = v))) := by kernel_rfl
  exact unr_ok hT 100000 _ _ _ _ (e.mpr H)

theorem t8 {v : AV} {s : List UInt8} {l : List (List AV)} {sz : Nat} (hT : TabOk cfg (ctab [(24, Ai.trueC), (28, encC), (29, encC)])) (H :
    ifP (decide ((↑(List.length s) : Int) > 20000)) (true = true ∧ AV.bool true = v) (ifP (decide ((↑(List.length l) : Int) > 100)) (true = true ∧ AV.bool true = v) (∃ (s1 : List UInt8), ∃ (l2 : List Int), ∃ (sz3 : Nat), List.length s1 ≤ 1000000 ∧ List.length l2 ≤ 1000 ∧ (∀ (n4 : Int), n4 ∈ l2 → -9223372036854775808 ≤ n4 ∧ n4 ≤ 9223372036854775807) ∧ szOk sz3 1 (List.length l2) ∧ [AV.str s, AV.sl sz (stripss 0 [] l) none] = [AV.str s1, AV.sl sz3 (encI' l2) none] ∧ ∃ (s6 : List UInt8), ∃ (l7 : List Int), ∃ (sz8 : Nat), List.length s6 ≤ 1000000 ∧ List.length l7 ≤ 1000 ∧ (∀ (n9 : Int), n9 ∈ l7 → -9223372036854775808 ≤ n9 ∧ n9 ≤ 9223372036854775807) ∧ szOk sz8 1 (List.length l7) ∧ [AV.str s, AV.sl sz (stripss 0 [] l) none] = [AV.str s6, AV.sl sz8 (encI' l7) none] ∧ ifP (encA s1 l2 == encA s6 l7) (true = true ∧ AV.bool true = v) (AV.bool false = v)))) :
    ToEnd cfg 8 (bodyOf Tryd.f8) (RetIs Tryd.prog Tryd.f8 v) ([.code []]) .normal ([(0, true, .str s), (1, true, .sl sz l none)]) ([]) := by
  have e : unr cfg 8 (bodyOf Tryd.f8) (ctab [(24, Ai.trueC), (28, encC), (29, encC)]) ⟨[], []⟩ (RetIs Tryd.prog Tryd.f8 v) 100000 ([.code []]) .normal ([(0, true, .str s), (1, true, .sl sz l none)]) ([]) =
    (ifP (decide ((↑(List.length s) : Int) > 20000)) (true = true ∧ AV.bool true = v) (ifP (decide ((↑(List.length l) : Int) > 100)) (true = true ∧ AV.bool true = v) (∃ (s1 : List UInt8), ∃ (l2 : List Int), ∃ (sz3 : Nat), List.length s1 ≤ 1000000 ∧ List.length l2 ≤ 1000 ∧ (∀ (n4 : Int), n4 ∈ l2 → -9223372036854775808 ≤ n4 ∧ n4 ≤ 9223372036854775807) ∧ szOk sz3 1 (List.length l2) ∧ [AV.str s, AV.sl sz (stripss 0 [] l) none] = [AV.str s1, AV.sl sz3 (encI' l2) none] ∧ ∃ (s6 : List UInt8), ∃ (l7 : List Int), ∃ (sz8 : Nat), List.length s6 ≤ 1000000 ∧ List.length l7 ≤ 1000 ∧ (∀ (n9 : Int), n9 ∈ l7 → -9223372036854775808 ≤ n9 ∧ n9 ≤ 9223372036854775807) ∧ szOk sz8 1 (List.length l7) ∧ [AV.str s, AV.sl sz (stripss 0 [] l) none] = [AV.str s6, AV.sl sz8 (encI' l7) none] ∧ ifP (encA s1 l2 == encA s6 l7) (true = true ∧ AV.bool true = v) (AV.bool false = v)))) := by kernel_rfl
  exact unr_ok hT 100000 _ _ _ _ (e.mpr H)

theorem t9a {v : AV} {n m : Int} {e : Bool} (hT : TabOk cfg (ctab [(7, decodesC), (24, Ai.trueC), (30, spreadC)])) (H :
    ∃ (n1 : Nat), n1 ≤ 10000 ∧ [AV.int IntKind.i64 (IntKind.wrap IntKind.i64 (Int.tmod n 2200))] = [AV.int IntKind.i64 (↑n1 : Int)] ∧ gAnd (rowsB (rb (List.replicate n1 97))) (gAnd (decide (2 + List.length (List.map rowV (rb (List.replicate n1 97))) ≤ 9223372036854775807)) (gAnd (decide (List.length (49 :: 59 :: List.append [] (List.map rowV (rb (List.replicate n1 97)))) + 2 ≤ 9223372036854775807)) (ToEnd cfg 9 (bodyOf Tryd.f9) (RetIs Tryd.prog Tryd.f9 v) [Fm.code [0, 1, 0, 1, 1, 1], Fm.block 0, Fm.code [1, 1, 1, 1]] XT.normal [(2, true, AV.bool e), (7, true, AV.str (49 :: 59 :: List.append (List.append [] (List.map rowV (rb (List.replicate n1 97)))) [13, 10])), (8, true, AV.str [48, 13, 10]), (9, true, AV.int IntKind.i64 (IntKind.wrap IntKind.i64 (Int.tmod m 9000)))] [])))) :
    ToEnd cfg 9 (bodyOf Tryd.f9) (RetIs Tryd.prog Tryd.f9 v) ([.code []]) .normal ([(0, true, .int .u16 n), (1, true, .int .u16 m), (2, true, .bool e)]) ([]) := by
  have e : unr cfg 9 (bodyOf Tryd.f9) (ctab [(7, decodesC), (24, Ai.trueC), (30, spreadC)]) ⟨[[0, 1, 0, 1, 1, 1]], []⟩ (RetIs Tryd.prog Tryd.f9 v) 100000 ([.code []]) .normal ([(0, true, .int .u16 n), (1, true, .int .u16 m), (2, true, .bool e)]) ([]) =
    (∃ (n1 : Nat), n1 ≤ 10000 ∧ [AV.int IntKind.i64 (IntKind.wrap IntKind.i64 (Int.tmod n 2200))] = [AV.int IntKind.i64 (↑n1 : Int)] ∧ gAnd (rowsB (rb (List.replicate n1 97))) (gAnd (decide (2 + List.length (List.map rowV (rb (List.replicate n1 97))) ≤ 9223372036854775807)) (gAnd (decide (List.length (49 :: 59 :: List.append [] (List.map rowV (rb (List.replicate n1 97)))) + 2 ≤ 9223372036854775807)) (ToEnd cfg 9 (bodyOf Tryd.f9) (RetIs Tryd.prog Tryd.f9 v) [Fm.code [0, 1, 0, 1, 1, 1], Fm.block 0, Fm.code [1, 1, 1, 1]] XT.normal [(2, true, AV.bool e), (7, true, AV.str (49 :: 59 :: List.append (List.append [] (List.map rowV (rb (List.replicate n1 97)))) [13, 10])), (8, true, AV.str [48, 13, 10]), (9, true, AV.int IntKind.i64 (IntKind.wrap IntKind.i64 (Int.tmod m 9000)))] [])))) := by kernel_rfl
  exact unr_ok hT 100000 _ _ _ _ (e.mpr H)

theorem t11 {v : AV} {s x : List UInt8} {l : List (List AV)} {sz : Nat} (hT : TabOk cfg (ctab [(24, Ai.trueC), (28, encC), (31, givesC), (32, failsC)])) (H :
    ifP (decide ((↑(List.length s) : Int) > 20000)) (true = true ∧ AV.bool true = v) (ifP (decide ((↑(List.length l) : Int) > 100)) (true = true ∧ AV.bool true = v) (ifP (decide ((↑(List.length x) : Int) > 20000)) (true = true ∧ AV.bool true = v) (∃ (s1 : List UInt8), ∃ (l2 : List Int), ∃ (sz3 : Nat), List.length s1 ≤ 1000000 ∧ List.length l2 ≤ 1000 ∧ (∀ (n4 : Int), n4 ∈ l2 → -9223372036854775808 ≤ n4 ∧ n4 ≤ 9223372036854775807) ∧ szOk sz3 1 (List.length l2) ∧ [AV.str s, AV.sl sz (stripss 0 [] l) none] = [AV.str s1, AV.sl sz3 (encI' l2) none] ∧ ifP (!s == []) (gAnd (decide (List.length (encA s1 l2) + List.length x ≤ 9223372036854775807)) (∃ (s6 : List UInt8), ∃ (m7 : Int), ∃ (e8 : Int), List.length s6 ≤ 10000000 ∧ (-9223372036854775808 ≤ m7 ∧ m7 ≤ 9223372036854775807) ∧ [AV.str (encA s1 l2 ++ x), AV.int IntKind.i64 (IntKind.wrap IntKind.i64 ((↑(List.length s) : Int) - 1)), AV.int IntKind.i64 3] = [AV.str s6, AV.int IntKind.i64 m7, AV.int IntKind.i64 e8] ∧ ifP (!failsB s6 m7 e8) (AV.bool false = v) (gAnd (decide (List.length (encA s1 l2) + List.length x ≤ 9223372036854775807)) (∃ (s9 : List UInt8), ∃ (b10 : List UInt8), ∃ (m11 : Int), ∃ (u12 : Int), ∃ (t13 : Int), List.length s9 ≤ 10000000 ∧ (-9223372036854775808 ≤ m11 ∧ m11 ≤ 9223372036854775807) ∧ [AV.str (encA s1 l2 ++ x), AV.int IntKind.i64 (↑(List.length s) : Int), AV.str s, AV.int IntKind.i64 (↑(List.length (encA s1 l2)) : Int), AV.int IntKind.i64 0] = [AV.str s9, AV.int IntKind.i64 m11, AV.str b10, AV.int IntKind.i64 u12, AV.int IntKind.i64 t13] ∧ ifP (givesB s9 m11 b10 u12 t13) (true = true ∧ AV.bool true = v) (AV.bool false = v))))) (gAnd (decide (List.length (encA s1 l2) + List.length x ≤ 9223372036854775807)) (∃ (s14 : List UInt8), ∃ (b15 : List UInt8), ∃ (m16 : Int), ∃ (u17 : Int), ∃ (t18 : Int), List.length s14 ≤ 10000000 ∧ (-9223372036854775808 ≤ m16 ∧ m16 ≤ 9223372036854775807) ∧ [AV.str (encA s1 l2 ++ x), AV.int IntKind.i64 (↑(List.length s) : Int), AV.str s, AV.int IntKind.i64 (↑(List.length (encA s1 l2)) : Int), AV.int IntKind.i64 0] = [AV.str s14, AV.int IntKind.i64 m16, AV.str b15, AV.int IntKind.i64 u17, AV.int IntKind.i64 t18] ∧ ifP (givesB s14 m16 b15 u17 t18) (true = true ∧ AV.bool true = v) (AV.bool false = v))))))) :
    ToEnd cfg 11 (bodyOf Tryd.f11) (RetIs Tryd.prog Tryd.f11 v) ([.code []]) .normal ([(0, true, .str s), (1, true, .sl sz l none), (2, true, .str x)]) ([]) := by
  have e : unr cfg 11 (bodyOf Tryd.f11) (ctab [(24, Ai.trueC), (28, encC), (31, givesC), (32, failsC)]) ⟨[], []⟩ (RetIs Tryd.prog Tryd.f11 v) 100000 ([.code []]) .normal ([(0, true, .str s), (1, true, .sl sz l none), (2, true, .str x)]) ([]) =
    (ifP (decide ((↑(List.length s) : Int) > 20000)) (true = true ∧ AV.bool true = v) (ifP (decide ((↑(List.length l) : Int) > 100)) (true = true ∧ AV.bool true = v) (ifP (decide ((↑(List.length x) : Int) > 20000)) (true = true ∧ AV.bool true = v) (∃ (s1 : List UInt8), ∃ (l2 : List Int), ∃ (sz3 : Nat), List.length s1 ≤ 1000000 ∧ List.length l2 ≤ 1000 ∧ (∀ (n4 : Int), n4 ∈ l2 → -9223372036854775808 ≤ n4 ∧ n4 ≤ 9223372036854775807) ∧ szOk sz3 1 (List.length l2) ∧ [AV.str s, AV.sl sz (stripss 0 [] l) none] = [AV.str s1, AV.sl sz3 (encI' l2) none] ∧ ifP (!s == []) (gAnd (decide (List.length (encA s1 l2) + List.length x ≤ 9223372036854775807)) (∃ (s6 : List UInt8), ∃ (m7 : Int), ∃ (e8 : Int), List.length s6 ≤ 10000000 ∧ (-9223372036854775808 ≤ m7 ∧ m7 ≤ 9223372036854775807) ∧ [AV.str (encA s1 l2 ++ x), AV.int IntKind.i64 (IntKind.wrap IntKind.i64 ((↑(List.length s) : Int) - 1)), AV.int IntKind.i64 3] = [AV.str s6, AV.int IntKind.i64 m7, AV.int IntKind.i64 e8] ∧ ifP (!failsB s6 m7 e8) (AV.bool false = v) (gAnd (decide (List.length (encA s1 l2) + List.length x ≤ 9223372036854775807)) (∃ (s9 : List UInt8), ∃ (b10 : List UInt8), ∃ (m11 : Int), ∃ (u12 : Int), ∃ (t13 : Int), List.length s9 ≤ 10000000 ∧ (-9223372036854775808 ≤ m11 ∧ m11 ≤ 9223372036854775807) ∧ [AV.str (encA s1 l2 ++ x), AV.int IntKind.i64 (↑(List.length s) : Int), AV.str s, AV.int IntKind.i64 (↑(List.length (encA s1 l2)) : Int), AV.int IntKind.i64 0] = [AV.str s9, AV.int IntKind.i64 m11, AV.str b10, AV.int IntKind.i64 u12, AV.int IntKind.i64 t13] ∧ ifP (givesB s9 m11 b10 u12 t13) (true = true ∧ AV.bool true = v) (AV.bool false = v))))) (gAnd (decide (List.length (encA s1 l2) + List.length x ≤ 9223372036854775807)) (∃ (s14 : List UInt8), ∃ (b15 : List UInt8), ∃ (m16 : Int), ∃ (u17 : Int), ∃ (t18 : Int), List.length s14 ≤ 10000000 ∧ (-9223372036854775808 ≤ m16 ∧ m16 ≤ 9223372036854775807) ∧ [AV.str (encA s1 l2 ++ x), AV.int IntKind.i64 (↑(List.length s) : Int), AV.str s, AV.int IntKind.i64 (↑(List.length (encA s1 l2)) : Int), AV.int IntKind.i64 0] = [AV.str s14, AV.int IntKind.i64 m16, AV.str b15, AV.int IntKind.i64 u17, AV.int IntKind.i64 t18] ∧ ifP (givesB s14 m16 b15 u17 t18) (true = true ∧ AV.bool true = v) (AV.bool false = v))))))) := by kernel_rfl
  exact unr_ok hT 100000 _ _ _ _ (e.mpr H)

theorem t12 {v : AV} {s x : List UInt8} {n : Int} (hT : TabOk cfg (ctab [(24, Ai.trueC), (25, decC), (32, failsC), (27, sameFsC)])) (H :
    ifP (decide ((↑(List.length s) : Int) > 3000)) (true = true ∧ AV.bool true = v) (ifP (decide ((↑(List.length x) : Int) > 3000)) (true = true ∧ AV.bool true = v) (∃ (s1 : List UInt8), ∃ (m2 : Int), List.length s1 ≤ 10000000 ∧ -9223372036854775808 ≤ m2 ∧ m2 ≤ 9223372036854775807 ∧ [AV.str s, AV.int IntKind.i64 5000] = [AV.str s1, AV.int IntKind.i64 m2] ∧ ifP (Dec.e (decA s1 m2) != 0) (ifP (Dec.body (decA s1 m2) == []) (ifP ((↑(Dec.used (decA s1 m2)) : Int) == 0) (ifP ((↑(List.length (encFs (Dec.tr (decA s1 m2)))) : Int) == 0) (true = true ∧ AV.bool true = v) (AV.bool false = v)) (AV.bool false = v)) (AV.bool false = v)) (ifP (decide ((↑(Dec.used (decA s1 m2)) : Int) < 5)) (AV.bool false = v) (ifP (decide ((↑(Dec.used (decA s1 m2)) : Int) > (↑(List.length s) : Int))) (AV.bool false = v) (gAnd (cutOb (List.length s) none (some (↑(Dec.used (decA s1 m2)) : Int))) (gAnd (decide (List.length (cutL s none (some (↑(Dec.used (decA s1 m2)) : Int))) + List.length x ≤ 9223372036854775807)) (∃ (s3 : List UInt8), ∃ (m4 : Int), List.length s3 ≤ 10000000 ∧ -9223372036854775808 ≤ m4 ∧ m4 ≤ 9223372036854775807 ∧ [AV.str (cutL s none (some (↑(Dec.used (decA s1 m2)) : Int)) ++ x), AV.int IntKind.i64 5000] = [AV.str s3, AV.int IntKind.i64 m4] ∧ gAnd (!decide ((↑(Dec.used (decA s1 m2)) : Int) = 0)) (gAnd (cutOb (List.length s) none (some (Int.tmod (IntKind.wrap IntKind.i64 n) (↑(Dec.used (decA s1 m2)) : Int)))) (∃ (s5 : List UInt8), ∃ (m6 : Int), ∃ (e7 : Int), List.length s5 ≤ 10000000 ∧ (-9223372036854775808 ≤ m6 ∧ m6 ≤ 9223372036854775807) ∧ [AV.str (cutL s none (some (Int.tmod (IntKind.wrap IntKind.i64 n) (↑(Dec.used (decA s1 m2)) : Int)))), AV.int IntKind.i64 5000, AV.int IntKind.i64 6] = [AV.str s5, AV.int IntKind.i64 m6, AV.int IntKind.i64 e7] ∧ ifP (failsB s5 m6 e7) (ifP (Dec.body (decA s3 m4) == Dec.body (decA s1 m2)) (ifP ((↑(Dec.used (decA s3 m4)) : Int) == (↑(Dec.used (decA s1 m2)) : Int)) (∃ (a8 : List Fld), ∃ (b9 : List Fld), ∃ (sz10 : Nat), ∃ (sy11 : Nat), List.length a8 ≤ 10000000 ∧ szOk sz10 2 (List.length a8) ∧ szOk sy11 2 (List.length b9) ∧ [AV.sl 2 (stripss 0 [] (encFs (Dec.tr (decA s1 m2)))) none, AV.sl 2 (stripss 0 [] (encFs (Dec.tr (decA s3 m4)))) none] = [AV.sl sz10 (encFs a8) none, AV.sl sy11 (encFs b9) none] ∧ ifP (sameFs a8 b9) (ifP (Dec.e (decA s3 m4) == 0) (true = true ∧ AV.bool true = v) (AV.bool false = v)) (AV.bool false = v)) (AV.bool false = v)) (AV.bool false = v)) (AV.bool false = v))))))))))) :
    ToEnd cfg 12 (bodyOf Tryd.f12) (RetIs Tryd.prog Tryd.f12 v) ([.code []]) .normal ([(0, true, .str s), (1, true, .int .u16 n), (2, true, .str x)]) ([]) := by
  have e : unr cfg 12 (bodyOf Tryd.f12) (ctab [(24, Ai.trueC), (25, decC), (32, failsC), (27, sameFsC)]) ⟨[], []⟩ (RetIs Tryd.prog Tryd.f12 v) 100000 ([.code []]) .normal ([(0, true, .str s), (1, true, .int .u16 n), (2, true, .str x)]) ([]) =
    (ifP (decide ((↑(List.length s) : Int) > 3000)) (true = true ∧ AV.bool true = v) (ifP (decide ((↑(List.length x) : Int) > 3000)) (true = true ∧ AV.bool true = v) (∃ (s1 : List UInt8), ∃ (m2 : Int), List.length s1 ≤ 10000000 ∧ -9223372036854775808 ≤ m2 ∧ m2 ≤ 9223372036854775807 ∧ [AV.str s, AV.int IntKind.i64 5000] = [AV.str s1, AV.int IntKind.i64 m2] ∧ ifP (Dec.e (decA s1 m2) != 0) (ifP (Dec.body (decA s1 m2) == []) (ifP ((↑(Dec.used (decA s1 m2)) : Int) == 0) (ifP ((↑(List.length (encFs (Dec.tr (decA s1 m2)))) : Int) == 0) (true = true ∧ AV.bool true = v) (AV.bool false = v)) (AV.bool false = v)) (AV.bool false = v)) (ifP (decide ((↑(Dec.used (decA s1 m2)) : Int) < 5)) (AV.bool false = v) (ifP (decide ((↑(Dec.used (decA s1 m2)) : Int) > (↑(List.length s) : Int))) (AV.bool false = v) (gAnd (cutOb (List.length s) none (some (↑(Dec.used (decA s1 m2)) : Int))) (gAnd (decide (List.length (cutL s none (some (↑(Dec.used (decA s1 m2)) : Int))) + List.length x ≤ 9223372036854775807)) (∃ (s3 : List UInt8), ∃ (m4 : Int), List.length s3 ≤ 10000000 ∧ -9223372036854775808 ≤ m4 ∧ m4 ≤ 9223372036854775807 ∧ [AV.str (cutL s none (some (↑(Dec.used (decA s1 m2)) : Int)) ++ x), AV.int IntKind.i64 5000] = [AV.str s3, AV.int IntKind.i64 m4] ∧ gAnd (!decide ((↑(Dec.used (decA s1 m2)) : Int) = 0)) (gAnd (cutOb (List.length s) none (some (Int.tmod (IntKind.wrap IntKind.i64 n) (↑(Dec.used (decA s1 m2)) : Int)))) (∃ (s5 : List UInt8), ∃ (m6 : Int), ∃ (e7 : Int), List.length s5 ≤ 10000000 ∧ (-9223372036854775808 ≤ m6 ∧ m6 ≤ 9223372036854775807) ∧ [AV.str (cutL s none (some (Int.tmod (IntKind.wrap IntKind.i64 n) (↑(Dec.used (decA s1 m2)) : Int)))), AV.int IntKind.i64 5000, AV.int IntKind.i64 6] = [AV.str s5, AV.int IntKind.i64 m6, AV.int IntKind.i64 e7] ∧ ifP (failsB s5 m6 e7) (ifP (Dec.body (decA s3 m4) == Dec.body (decA s1 m2)) (ifP ((↑(Dec.used (decA s3 m4)) : Int) == (↑(Dec.used (decA s1 m2)) : Int)) (∃ (a8 : List Fld), ∃ (b9 : List Fld), ∃ (sz10 : Nat), ∃ (sy11 : Nat), List.length a8 ≤ 10000000 ∧ szOk sz10 2 (List.length a8) ∧ szOk sy11 2 (List.length b9) ∧ [AV.sl 2 (stripss 0 [] (encFs (Dec.tr (decA s1 m2)))) none, AV.sl 2 (stripss 0 [] (encFs (Dec.tr (decA s3 m4)))) none] = [AV.sl sz10 (encFs a8) none, AV.sl sy11 (encFs b9) none] ∧ ifP (sameFs a8 b9) (ifP (Dec.e (decA s3 m4) == 0) (true = true ∧ AV.bool true = v) (AV.bool false = v)) (AV.bool false = v)) (AV.bool false = v)) (AV.bool false = v)) (AV.bool false = v))))))))))) := by kernel_rfl
  exact unr_ok hT 100000 _ _ _ _ (e.mpr H)

theorem t30b {v : AV} {n i : Int} {g N : Nat} {cs : List AV} (hT : TabOk cfg (ctab [])) (H :
    ifP (decide (i < n)) (gAnd (inR i N && true && true) (gAnd (Nat.ble (0 + Int.toNat i * 1 + 1) (List.length cs)) (ToEnd cfg 30 (bodyOf Tryd.f30) (RetIs Tryd.prog Tryd.f30 v) [Fm.code [0, 1, 0, 1, 1], Fm.block 0, Fm.code [1, 1, 1]] XT.normal [(0, true, AV.int IntKind.i64 n), (3, true, AV.osl 1 0 N 1), (4, true, AV.int IntKind.i64 (IntKind.wrap IntKind.i64 (i + 1)))] [Blk.grow g 1 5, Blk.mem 5 (splice cs (0 + Int.toNat i * 1) [ofConst (Value.int IntKind.u8 97)])]))) (stripR 0 [Blk.grow g 1 5, Blk.mem 5 cs] (AV.osl 1 0 N 1) = v)) :
    ToEnd cfg 30 (bodyOf Tryd.f30) (RetIs Tryd.prog Tryd.f30 v) ([.code [0, 1, 0, 1, 1], .block 0, .code [1, 1, 1]]) .normal ([(0, true, .int .i64 n), (3, true, .osl 1 0 N 1), (4, true, .int .i64 i)]) ([.grow g 1 5, .mem 5 cs]) := by
  have e : unr cfg 30 (bodyOf Tryd.f30) (ctab []) ⟨[[0, 1, 0, 1, 1]], []⟩ (RetIs Tryd.prog Tryd.f30 v) 100000 ([.code [0, 0, 1, 0, 1, 1], .loop [0, 1, 0, 1, 1] 2, .block 0, .code [1, 1, 1]]) .normal ([(0, true, .int .i64 n), (3, true, .osl 1 0 N 1), (4, true, .int .i64 i)]) ([.grow g 1 5, .mem 5 cs]) =
    (ifP (decide (i < n)) (gAnd (inR i N && true && true) (gAnd (Nat.ble (0 + Int.toNat i * 1 + 1) (List.length cs)) (ToEnd cfg 30 (bodyOf Tryd.f30) (RetIs Tryd.prog Tryd.f30 v) [Fm.code [0, 1, 0, 1, 1], Fm.block 0, Fm.code [1, 1, 1]] XT.normal [(0, true, AV.int IntKind.i64 n), (3, true, AV.osl 1 0 N 1), (4, true, AV.int IntKind.i64 (IntKind.wrap IntKind.i64 (i + 1)))] [Blk.grow g 1 5, Blk.mem 5 (splice cs (0 + Int.toNat i * 1) [ofConst (Value.int IntKind.u8 97)])]))) (stripR 0 [Blk.grow g 1 5, Blk.mem 5 cs] (AV.osl 1 0 N 1) = v)) := by kernel_rfl
  exact ends_round hT 100000 (by kernel_rfl) (e.mpr H)

theorem t9b {v : AV}   {b2 : Bool} {s7 : List UInt8} {s8 : List UInt8} {i9 : Int} (hT : TabOk cfg (ctab [(7, decodesC), (24, Ai.trueC), (30, spreadC)])) (H :
    ifP (decide (i9 > 0)) (gAnd (decide (List.length s8 + 3 ≤ 9223372036854775807)) (∃ (n1 : Nat), n1 ≤ 10000 ∧ [AV.int IntKind.i64 (min i9 500)] = [AV.int IntKind.i64 (↑n1 : Int)] ∧ gAnd (rowsB (rb (List.replicate n1 97))) (gAnd (decide (List.length (s8 ++ [97, 58, 32]) + List.length (List.map rowV (rb (List.replicate n1 97))) ≤ 9223372036854775807)) (gAnd (decide (List.length (s8 ++ [97, 58, 32] ++ List.map rowV (rb (List.replicate n1 97))) + 2 ≤ 9223372036854775807)) (ToEnd cfg 9 (bodyOf Tryd.f9) (RetIs Tryd.prog Tryd.f9 v) [Fm.code [0, 1, 0, 1, 1, 1], Fm.block 0, Fm.code [1, 1, 1, 1]] XT.normal [(2, true, AV.bool b2), (7, true, AV.str s7), (8, true, AV.str (s8 ++ [97, 58, 32] ++ List.map rowV (rb (List.replicate n1 97)) ++ [13, 10])), (9, true, AV.int IntKind.i64 (IntKind.wrap IntKind.i64 (i9 - 500)))] []))))) (ifP b2 (gAnd (decide (List.length s7 + 3 ≤ 9223372036854775807)) (gAnd (decide (List.length (s7 ++ [120, 13, 10]) + List.length s8 ≤ 9223372036854775807)) (gAnd (decide (List.length (s7 ++ [120, 13, 10] ++ s8) + 2 ≤ 9223372036854775807)) (∃ (s2 : List UInt8), ∃ (m3 : Int), (-9223372036854775808 ≤ m3 ∧ m3 ≤ 9223372036854775807) ∧ [AV.str (s7 ++ [120, 13, 10] ++ s8 ++ [13, 10]), AV.int IntKind.i64 9] = [AV.str s2, AV.int IntKind.i64 m3] ∧ gAnd (cutOb (List.length s7) none (some (IntKind.wrap IntKind.i64 ((↑(List.length s7) : Int) - 1)))) (∃ (s4 : List UInt8), ∃ (m5 : Int), (-9223372036854775808 ≤ m5 ∧ m5 ≤ 9223372036854775807) ∧ [AV.str (cutL s7 none (some (IntKind.wrap IntKind.i64 ((↑(List.length s7) : Int) - 1)))), AV.int IntKind.i64 9] = [AV.str s4, AV.int IntKind.i64 m5] ∧ true = true ∧ AV.bool true = v))))) (gAnd (cutOb (List.length s7) none (some (IntKind.wrap IntKind.i64 ((↑(List.length s7) : Int) - 2)))) (∃ (s6 : List UInt8), ∃ (m7 : Int), (-9223372036854775808 ≤ m7 ∧ m7 ≤ 9223372036854775807) ∧ [AV.str (cutL s7 none (some (IntKind.wrap IntKind.i64 ((↑(List.length s7) : Int) - 2)))), AV.int IntKind.i64 9] = [AV.str s6, AV.int IntKind.i64 m7] ∧ gAnd (decide (List.length s7 + 3 ≤ 9223372036854775807)) (gAnd (decide (List.length (s7 ++ [120, 13, 10]) + List.length s8 ≤ 9223372036854775807)) (∃ (s8_1 : List UInt8), ∃ (m9 : Int), (-9223372036854775808 ≤ m9 ∧ m9 ≤ 9223372036854775807) ∧ [AV.str (s7 ++ [120, 13, 10] ++ s8), AV.int IntKind.i64 9] = [AV.str s8_1, AV.int IntKind.i64 m9] ∧ true = true ∧ AV.bool true = v)))))) :
    ToEnd cfg 9 (bodyOf Tryd.f9) (RetIs Tryd.prog Tryd.f9 v) ([.code [0, 1, 0, 1, 1, 1], Fm.block 0, Fm.code [1, 1, 1, 1]]) .normal ([(2, true, AV.bool b2), (7, true, AV.str s7), (8, true, AV.str s8), (9, true, AV.int IntKind.i64 i9)]) ([]) := by
  have e : unr cfg 9 (bodyOf Tryd.f9) (ctab [(7, decodesC), (24, Ai.trueC), (30, spreadC)]) ⟨[[0, 1, 0, 1, 1, 1]], []⟩ (RetIs Tryd.prog Tryd.f9 v) 100000 ([.code [0, 0, 1, 0, 1, 1, 1], .loop [0, 1, 0, 1, 1, 1] 0, Fm.block 0, Fm.code [1, 1, 1, 1]]) .normal ([(2, true, AV.bool b2), (7, true, AV.str s7), (8, true, AV.str s8), (9, true, AV.int IntKind.i64 i9)]) ([]) =
    (ifP (decide (i9 > 0)) (gAnd (decide (List.length s8 + 3 ≤ 9223372036854775807)) (∃ (n1 : Nat), n1 ≤ 10000 ∧ [AV.int IntKind.i64 (min i9 500)] = [AV.int IntKind.i64 (↑n1 : Int)] ∧ gAnd (rowsB (rb (List.replicate n1 97))) (gAnd (decide (List.length (s8 ++ [97, 58, 32]) + List.length (List.map rowV (rb (List.replicate n1 97))) ≤ 9223372036854775807)) (gAnd (decide (List.length (s8 ++ [97, 58, 32] ++ List.map rowV (rb (List.replicate n1 97))) + 2 ≤ 9223372036854775807)) (ToEnd cfg 9 (bodyOf Tryd.f9) (RetIs Tryd.prog Tryd.f9 v) [Fm.code [0, 1, 0, 1, 1, 1], Fm.block 0, Fm.code [1, 1, 1, 1]] XT.normal [(2, true, AV.bool b2), (7, true, AV.str s7), (8, true, AV.str (s8 ++ [97, 58, 32] ++ List.map rowV (rb (List.replicate n1 97)) ++ [13, 10])), (9, true, AV.int IntKind.i64 (IntKind.wrap IntKind.i64 (i9 - 500)))] []))))) (ifP b2 (gAnd (decide (List.length s7 + 3 ≤ 9223372036854775807)) (gAnd (decide (List.length (s7 ++ [120, 13, 10]) + List.length s8 ≤ 9223372036854775807)) (gAnd (decide (List.length (s7 ++ [120, 13, 10] ++ s8) + 2 ≤ 9223372036854775807)) (∃ (s2 : List UInt8), ∃ (m3 : Int), (-9223372036854775808 ≤ m3 ∧ m3 ≤ 9223372036854775807) ∧ [AV.str (s7 ++ [120, 13, 10] ++ s8 ++ [13, 10]), AV.int IntKind.i64 9] = [AV.str s2, AV.int IntKind.i64 m3] ∧ gAnd (cutOb (List.length s7) none (some (IntKind.wrap IntKind.i64 ((↑(List.length s7) : Int) - 1)))) (∃ (s4 : List UInt8), ∃ (m5 : Int), (-9223372036854775808 ≤ m5 ∧ m5 ≤ 9223372036854775807) ∧ [AV.str (cutL s7 none (some (IntKind.wrap IntKind.i64 ((↑(List.length s7) : Int) - 1)))), AV.int IntKind.i64 9] = [AV.str s4, AV.int IntKind.i64 m5] ∧ true = true ∧ AV.bool true = v))))) (gAnd (cutOb (List.length s7) none (some (IntKind.wrap IntKind.i64 ((↑(List.length s7) : Int) - 2)))) (∃ (s6 : List UInt8), ∃ (m7 : Int), (-9223372036854775808 ≤ m7 ∧ m7 ≤ 9223372036854775807) ∧ [AV.str (cutL s7 none (some (IntKind.wrap IntKind.i64 ((↑(List.length s7) : Int) - 2)))), AV.int IntKind.i64 9] = [AV.str s6, AV.int IntKind.i64 m7] ∧ gAnd (decide (List.length s7 + 3 ≤ 9223372036854775807)) (gAnd (decide (List.length (s7 ++ [120, 13, 10]) + List.length s8 ≤ 9223372036854775807)) (∃ (s8_1 : List UInt8), ∃ (m9 : Int), (-9223372036854775808 ≤ m9 ∧ m9 ≤ 9223372036854775807) ∧ [AV.str (s7 ++ [120, 13, 10] ++ s8), AV.int IntKind.i64 9] = [AV.str s8_1, AV.int IntKind.i64 m9] ∧ true = true ∧ AV.bool true = v)))))) := by kernel_rfl
  exact ends_round hT 100000 (by kernel_rfl) (e.mpr H)

end Go.Proofs.YtnncfdlpogjlkaaDoor
end

section
namespace Go.Proofs.YtnncfdlpogjlkaaDoor
open Go.Ai Go
set_option linter.unusedSimpArgs false
set_option linter.unusedVariables false
set_option linter.unnecessarySimpa false
set_option maxRecDepth 100000

theorem pf27 : pureFn cfg 27 Tryd.f27 := ⟨by kernel_rfl, by kernel_rfl, by kernel_rfl, by kernel_rfl, by kernel_rfl, by kernel_rfl⟩
theorem pf31 : pureFn cfg 31 Tryd.f31 := ⟨by kernel_rfl, by kernel_rfl, by kernel_rfl, by kernel_rfl, by kernel_rfl, by kernel_rfl⟩
theorem pf32 : pureFn cfg 32 Tryd.f32 := ⟨by kernel_rfl, by kernel_rfl, by kernel_rfl, by kernel_rfl, by kernel_rfl, by kernel_rfl⟩
theorem pf30 : pureFn cfg 30 Tryd.f30 := ⟨by kernel_rfl, by kernel_rfl, by kernel_rfl, by kernel_rfl, by kernel_rfl, by kernel_rfl⟩
theorem pf7 : pureFn cfg 7 Tryd.f7 := ⟨by kernel_rfl, by kernel_rfl, by kernel_rfl, by kernel_rfl, by kernel_rfl, by kernel_rfl⟩
theorem pf8 : pureFn cfg 8 Tryd.f8 := ⟨by kernel_rfl, by kernel_rfl, by kernel_rfl, by kernel_rfl, by kernel_rfl, by kernel_rfl⟩
theorem pf9 : pureFn cfg 9 Tryd.f9 := ⟨by kernel_rfl, by kernel_rfl, by kernel_rfl, by kernel_rfl, by kernel_rfl, by kernel_rfl⟩
theorem pf11 : pureFn cfg 11 Tryd.f11 := ⟨by kernel_rfl, by kernel_rfl, by kernel_rfl, by kernel_rfl, by kernel_rfl, by kernel_rfl⟩
theorem pf12 : pureFn cfg 12 Tryd.f12 := ⟨by kernel_rfl, by kernel_rfl, by kernel_rfl, by kernel_rfl, by kernel_rfl, by kernel_rfl⟩
theorem pf24 : pureFn cfg 24 Tryd.f24 := ⟨by kernel_rfl, by kernel_rfl, by kernel_rfl, by kernel_rfl, by kernel_rfl, by kernel_rfl⟩
theorem e24 : isTrue (call cfg false 100000 24 [] []) = true := by kernel_rfl
theorem c24 : COk cfg 24 Ai.trueC := cok_true pf24 e24

theorem loop27 {sz sy : Nat} : ∀ (r s pre pre' : List Fld), pre.length = pre'.length → r.length = s.length → (pre ++ r).length ≤ lim → szOk sz 2 (pre ++ r).length → szOk sy 2 (pre' ++ s).length →
    ToEnd cfg 27 (bodyOf Tryd.f27) (RetIs Tryd.prog Tryd.f27 (.bool (sameFs r s))) [.code [0, 1, 0, 1, 1], .block 0, .code [1, 1, 1]] .normal
      [(0, true, .sl sz (encFs (pre ++ r)) none), (1, true, .sl sy (encFs (pre' ++ s)) none), (5, true, .int .i64 pre.length)] [] := by
  intro r
  induction r with
  | nil =>
    intro s pre pre' hp hr hl h1 h2
    obtain rfl : s = [] := by simpa using hr.symm
    refine t27b (ctab_ok ctab_nil) (ifP_intro (fun c => ?_) fun _ => rfl)
    simp [encFs_len] at c
  | cons x r ih =>
    intro s pre pre' hp hr hl h1 h2
    obtain ⟨y, s, rfl⟩ : ∃ y s', s = y :: s' := by cases s with | nil => simp at hr | cons y s => exact ⟨y, s, rfl⟩
    have hlen : pre.length ≤ lim := by simp at hl; omega
    have hin : (inR (pre.length : Int) (encFs (pre ++ x :: r)).length && Nat.beq sz 2 && Nat.ble 1 sz) = true := by
      rw [encFs_len, inR_nat (by simp), Bool.true_and]
      exact h1.beq (by simp; omega) (by decide)
    have hin' : (inR (pre.length : Int) (encFs (pre' ++ y :: s)).length && Nat.beq sy 2 && Nat.ble 1 sy) = true := by
      rw [encFs_len, inR_nat (by simp; omega), Bool.true_and]
      exact h2.beq (by simp; omega) (by decide)
    refine t27b (ctab_ok ctab_nil) (ifP_intro (fun _ => gAnd_intro hin ⟨x.name, x.value, getE_fs _ _ _, gAnd_intro hin' ⟨y.name, y.value, by rw [hp]; exact getE_fs _ _ _, ifP_intro (fun b => ?_) fun b => ?_⟩⟩) fun c => ?_)
    · simp only [Bool.not_eq_true'] at b
      rw [sameFs, b]; rfl
    · simp only [Bool.not_eq_false'] at b
      rw [sameFs, b, Bool.true_and, wrap_n hlen]
      have := ih s (pre ++ [x]) (pre' ++ [y]) (by simpa using hp) (by simpa using hr) (by simpa using hl) (by simpa using h1) (by simpa using h2)
      simpa using this
    · simp [encFs_len] at c; omega
theorem sameFs_ne : ∀ {a b : List Fld}, a.length ≠ b.length → sameFs a b = false
  | [], [], h => absurd rfl h
  | [], _ :: _, _ => rfl
  | _ :: _, [], _ => rfl
  | x :: a, y :: b, h => by rw [sameFs, sameFs_ne (a := a) (b := b) (by simpa using h), Bool.and_false]
theorem c27 : COk cfg 27 sameFsC := by
  refine cok_pure pf27 fun vs h K ht => ?_
  obtain ⟨a, b, sz, sy, hl, h1, h2, rfl, hk⟩ := ht
  refine ⟨_, hk, t27a (ctab_ok ctab_nil) (ifP_intro (fun c => ?_) fun c => ?_)⟩
  · have : a.length ≠ b.length := by
      rintro he
      simp [encFs_len, he] at c
    rw [sameFs_ne this]
  · have : a.length = b.length := by
      have := bne_eq_false_iff_eq.1 c
      rw [encFs_len, encFs_len] at this
      omega
    exact loop27 a b [] [] rfl this hl h1 h2
theorem c31 : COk cfg 31 givesC := by
  refine cok_pure pf31 fun vs h K ht => ?_
  obtain ⟨s, b, m, u, t, hl, ⟨h0, h1⟩, rfl, hk⟩ := ht
  refine ⟨_, hk, t31 (ctab_ok (ctab_cons c25 ctab_nil)) ⟨s, m, hl, h0, h1, rfl, ?_⟩⟩
  unfold givesB
  rw [encFs_len]
  refine ifP_intro (fun a => ifP_intro (fun c => ifP_intro (fun d => ?_) fun d => ?_) fun c => ?_) fun a => ?_
  · rw [a, c, d]; rfl
  · rw [d]; simp
  · rw [c]; simp
  · rw [a]; simp
theorem c32 : COk cfg 32 failsC := by
  refine cok_pure pf32 fun vs h K ht => ?_
  obtain ⟨s, m, e, hl, ⟨h0, h1⟩, rfl, hk⟩ := ht
  refine ⟨_, hk, t32 (ctab_ok (ctab_cons c25 ctab_nil)) ⟨s, m, hl, h0, h1, rfl, ?_⟩⟩
  unfold failsB
  rw [encFs_len]
  refine ifP_intro (fun a => ifP_intro (fun c => ifP_intro (fun d => ?_) fun d => ?_) fun c => ?_) fun a => ?_
  · rw [a, c, d]; rfl
  · rw [d]; simp
  · rw [c]; simp
  · rw [a]; simp
theorem c26' : COk cfg 26 decRC := c26

/-! How many fields there may be -/
theorem parF_len : ∀ (n k : Nat) (s : List UInt8), (parF n k s).1.length ≤ s.length
  | 0, k, s => by simp [parF]
  | n + 1, k, s => by
    rw [parF]
    split
    · simp
    · split
      · simp
      · rename_i i hf
        have h2 := (fnd_some hf).2
        have := parF_len n (k + 1) (s.drop (i + 2))
        repeat' split
        all_goals (simp [crlf] at h2 this ⊢ <;> omega)
theorem lastG_tr (r b : List UInt8) (u : Nat) : (lastG r b u).tr.length ≤ 10000 := by
  have := (lineA_len crlf2 r 8192).1
  unfold lastG
  split
  · simp
  split
  · simp [decX]
  split
  · simp [decX]
  · have h2 := parF_len (((lineA crlf2 8192 r).1 ++ crlf).length + 1) 0 ((lineA crlf2 8192 r).1 ++ crlf)
    refine Nat.le_trans h2 ?_
    simp [crlf]; omega
theorem decG_tr (m : Nat) : ∀ (f : Nat) (r b : List UInt8) (u : Nat), (decG m f r b u).tr.length ≤ 10000
  | 0, r, b, u => by simp [decG, decX]
  | f + 1, r, b, u => by
    rw [decG]
    repeat' split
    all_goals first
      | exact lastG_tr _ _ _
      | exact decG_tr m f _ _ _
      | simp [decX]
theorem decA_tr (s : List UInt8) (m : Int) : (decA s m).tr.length ≤ lim := Nat.le_trans (decG_tr _ _ _ _ _) (by decide)
theorem c7 : COk cfg 7 decodesC := by
  have hT : TabOk cfg (ctab [(24, Ai.trueC), (25, decC), (26, decRC), (27, sameFsC)]) := ctab_ok (ctab_cons c24 (ctab_cons c25 (ctab_cons c26' (ctab_cons c27 ctab_nil))))
  refine cok_pure pf7 fun vs h K ht => ?_
  obtain ⟨s, m, ⟨h0, h1⟩, rfl, hk⟩ := ht
  refine ⟨_, hk, t7 hT (ifP_intro (fun a => ⟨rfl, rfl⟩) fun a => ?_)⟩
  have hs : s.length ≤ 20000 := by simp only [gt_iff_lt, decide_eq_false_iff_not] at a; omega
  refine ⟨s, m, by omega, h0, h1, rfl, s, m, by omega, h0, h1, rfl, ifP_intro (fun _ => ifP_intro (fun _ => ⟨(decA s m).tr, (decA s m).tr, 2, 2, decA_tr s m, .inl rfl, .inl rfl, by rw [stripss_encFs], ifP_intro (fun _ => ifP_intro (fun _ => ⟨rfl, rfl⟩) fun b => ?_) fun b => ?_⟩) fun b => ?_) fun b => ?_⟩
  · simp at b
  · rw [sameFs_refl] at b; cases b
  · simp at b
  · simp at b
theorem c8 : COk cfg 8 (fun vs h K => ∃ (s : List UInt8) (l : List Int), (∀ n ∈ l, -9223372036854775808 ≤ n ∧ n ≤ 9223372036854775807) ∧ vs = [.str s, .sl 1 (encI' l) none] ∧ K (.bool true) h) := by
  have hT : TabOk cfg (ctab [(24, Ai.trueC), (28, encC), (29, encC)]) := ctab_ok (ctab_cons c24 (ctab_cons c28 (ctab_cons c29 ctab_nil)))
  refine cok_pure pf8 fun vs h K ht => ?_
  obtain ⟨s, l, hn, rfl, hk⟩ := ht
  refine ⟨_, hk, t8 hT (ifP_intro (fun a => ⟨rfl, rfl⟩) fun a => ifP_intro (fun b => ⟨rfl, rfl⟩) fun b => ?_)⟩
  have hs : s.length ≤ 20000 := by simp only [gt_iff_lt, decide_eq_false_iff_not] at a; omega
  have hl : l.length ≤ 100 := by simp only [gt_iff_lt, decide_eq_false_iff_not] at b; rw [encI'_len] at b; omega
  have hst : stripss 0 [] (encI' l) = encI' l := stripss_low 0 [] _ (low_encI' 0 l)
  refine ⟨s, l, 1, by omega, by omega, hn, .inl rfl, by rw [hst], s, l, 1, by omega, by omega, hn, .inl rfl, by rw [hst], ifP_intro (fun _ => ⟨rfl, rfl⟩) fun c => by simp at c⟩

/-! So many letters -/
def aC (k : Nat) : List UInt8 := List.replicate k 97
theorem zc_step (k m : Nat) : splice (bc (aC k) ++ zc (m + 1)) (0 + k * 1) [AV.int .u8 97] = bc (aC (k + 1)) ++ zc m := by
  have e : bc (aC k) ++ zc (m + 1) = bc (aC k) ++ AV.int .u8 0 :: zc m := rfl
  rw [e, splice_at (by rw [bc_len]; simp [aC])]
  have e2 : aC (k + 1) = aC k ++ [97] := by unfold aC; rw [List.replicate_succ']
  rw [e2, bc_app, List.append_assoc]; rfl
theorem outS_bc (b0 : Blk) (s : List UInt8) : stripR 0 [b0, .mem 5 (bc s)] (.osl 1 0 s.length 1) = .sl 1 (rb s) none := by
  show outS [b0, .mem 5 (bc s)] 1 0 s.length 1 = _
  unfold outS
  show (bif Nat.beq 1 1 && (List.take s.length (List.drop 0 (bc s))).all atomV then AV.sl 1 ((List.take s.length (List.drop 0 (bc s))).map fun c => [c]) none else AV.top) = _
  rw [List.drop_zero, List.take_of_length_le (by rw [bc_len]; exact Nat.le_refl _)]
  have : (bc s).all atomV = true := by
    rw [List.all_eq_true]
    intro x hx
    obtain ⟨c, _, rfl⟩ := List.mem_map.1 hx
    rfl
  rw [this]
  simp [bc, rb]
theorem loop30 {N g : Nat} (hN : N ≤ 10000) : ∀ (m k : Nat), k + m = N →
    ToEnd cfg 30 (bodyOf Tryd.f30) (RetIs Tryd.prog Tryd.f30 (.sl 1 (rb (aC N)) none)) [.code [0, 1, 0, 1, 1], .block 0, .code [1, 1, 1]] .normal
      [(0, true, .int .i64 N), (3, true, .osl 1 0 N 1), (4, true, .int .i64 k)] [.grow g 1 5, .mem 5 (bc (aC k) ++ zc m)] := by
  intro m
  induction m with
  | zero =>
    intro k hk
    have hkN : k = N := by omega
    subst hkN
    refine t30b (ctab_ok ctab_nil) (ifP_intro (fun a => by simp at a) fun _ => ?_)
    have e : bc (aC k) ++ zc 0 = bc (aC k) := by simp [zc]
    have := outS_bc (.grow g 1 5) (aC k)
    rw [e]
    have hl : (aC k).length = k := by simp [aC]
    rw [hl] at this
    exact this
  | succ m ih =>
    intro k hk
    have hw : IntKind.wrap .i64 ((k : Int) + 1) = ((k + 1 : Nat) : Int) := by rw [wrap_in (by omega) (by omega)]; omega
    refine t30b (ctab_ok ctab_nil) (ifP_intro (fun _ => gAnd_intro (by rw [inR_nat (by omega)]; rfl) (gAnd_intro ?_ ?_)) fun a => by simp at a; omega)
    · refine Nat.ble_eq_true_of_le ?_
      rw [List.length_append, bc_len]
      simp [aC, zc]
    · have e : [ofConst (Value.int IntKind.u8 97)] = [AV.int .u8 97] := rfl
      rw [e, Int.toNat_natCast, zc_step, hw]
      exact ih (k + 1) (by omega)
theorem c30 : COk cfg 30 spreadC := by
  refine cok_pure pf30 fun vs h K ht => ?_
  obtain ⟨n, hn, rfl, hk⟩ := ht
  refine ⟨_, hk, t30a (ctab_ok ctab_nil) (gAnd_intro ?_ ?_)⟩
  · rw [decide_eq_true (by omega), decide_eq_true (by omega), decide_eq_true (by omega), decide_eq_true (by omega)]; rfl
  · have := loop30 (N := n) (g := 0) hn n 0 (by omega)
    rw [Int.toNat_natCast]
    exact this
theorem row_aC (n : Nat) : (rb (List.replicate n 97)).map rowV = List.replicate n 97 := rowV_rb _
theorem tab9 : TabOk cfg (ctab [(7, decodesC), (24, Ai.trueC), (30, spreadC)]) := ctab_ok (ctab_cons c7 (ctab_cons c24 (ctab_cons c30 ctab_nil)))
theorem loop9 {e : Bool} {l : List UInt8} (hl0 : 2 ≤ l.length) (hl1 : l.length ≤ 10000) : ∀ (j : Nat) (k : Int) (s : List UInt8), k ≤ 500 * j → -500 < k → k ≤ 9000 → s.length + 600 * j ≤ 100000 →
    ToEnd cfg 9 (bodyOf Tryd.f9) (RetIs Tryd.prog Tryd.f9 (.bool true)) [.code [0, 1, 0, 1, 1, 1], .block 0, .code [1, 1, 1, 1]] .normal
      [(2, true, .bool e), (7, true, .str l), (8, true, .str s), (9, true, .int .i64 k)] [] := by
  intro j
  have fin : ∀ s : List UInt8, s.length ≤ 100000 → (ifP e (gAnd (decide (l.length + 3 ≤ 9223372036854775807)) (gAnd (decide ((l ++ [120, 13, 10]).length + s.length ≤ 9223372036854775807)) (gAnd (decide ((l ++ [120, 13, 10] ++ s).length + 2 ≤ 9223372036854775807)) (∃ (s2 : List UInt8), ∃ (m3 : Int), (-9223372036854775808 ≤ m3 ∧ m3 ≤ 9223372036854775807) ∧ [AV.str (l ++ [120, 13, 10] ++ s ++ [13, 10]), AV.int .i64 9] = [AV.str s2, AV.int .i64 m3] ∧ gAnd (cutOb l.length none (some (IntKind.wrap .i64 ((l.length : Int) - 1)))) (∃ (s4 : List UInt8), ∃ (m5 : Int), (-9223372036854775808 ≤ m5 ∧ m5 ≤ 9223372036854775807) ∧ [AV.str (cutL l none (some (IntKind.wrap .i64 ((l.length : Int) - 1)))), AV.int .i64 9] = [AV.str s4, AV.int .i64 m5] ∧ true = true ∧ AV.bool true = AV.bool true)))))
      (gAnd (cutOb l.length none (some (IntKind.wrap .i64 ((l.length : Int) - 2)))) (∃ (s6 : List UInt8), ∃ (m7 : Int), (-9223372036854775808 ≤ m7 ∧ m7 ≤ 9223372036854775807) ∧ [AV.str (cutL l none (some (IntKind.wrap .i64 ((l.length : Int) - 2)))), AV.int .i64 9] = [AV.str s6, AV.int .i64 m7] ∧ gAnd (decide (l.length + 3 ≤ 9223372036854775807)) (gAnd (decide ((l ++ [120, 13, 10]).length + s.length ≤ 9223372036854775807)) (∃ (s8 : List UInt8), ∃ (m9 : Int), (-9223372036854775808 ≤ m9 ∧ m9 ≤ 9223372036854775807) ∧ [AV.str (l ++ [120, 13, 10] ++ s), AV.int .i64 9] = [AV.str s8, AV.int .i64 m9] ∧ true = true ∧ AV.bool true = AV.bool true))))) := by
    intro s hs
    have w1 : IntKind.wrap .i64 ((l.length : Int) - 1) = ((l.length - 1 : Nat) : Int) := by rw [wrap_in (by omega) (by omega)]; omega
    have w2 : IntKind.wrap .i64 ((l.length : Int) - 2) = ((l.length - 2 : Nat) : Int) := by rw [wrap_in (by omega) (by omega)]; omega
    have d1 : decide (l.length + 3 ≤ 9223372036854775807) = true := decide_eq_true (by omega)
    have d2 : decide ((l ++ [120, 13, 10]).length + s.length ≤ 9223372036854775807) = true := decide_eq_true (by simp; omega)
    have d3 : decide ((l ++ [120, 13, 10] ++ s).length + 2 ≤ 9223372036854775807) = true := decide_eq_true (by simp; omega)
    rw [w1, w2]
    exact ifP_intro (fun _ => gAnd_intro d1 (gAnd_intro d2 (gAnd_intro d3 ⟨_, 9, by omega, rfl, gAnd_intro (cutOb_to (by omega)) ⟨_, 9, by omega, rfl, rfl, rfl⟩⟩))) fun _ => gAnd_intro (cutOb_to (by omega)) ⟨_, 9, by omega, rfl, gAnd_intro d1 (gAnd_intro d2 ⟨_, 9, by omega, rfl, rfl, rfl⟩)⟩
  induction j with
  | zero =>
    intro k s hk hk0 hk1 hs
    exact t9b tab9 (ifP_intro (fun a => by simp only [gt_iff_lt, decide_eq_true_eq] at a; omega) fun _ => fin s (by omega))
  | succ j ih =>
    intro k s hk hk0 hk1 hs
    refine t9b tab9 (ifP_intro (fun a => ?_) fun _ => fin s (by omega))
    have ha : 0 < k := by simpa using a
    obtain ⟨n, hn⟩ : ∃ n : Nat, min k 500 = (n : Int) := ⟨(min k 500).toNat, by omega⟩
    have hw : IntKind.wrap .i64 (k - 500) = k - 500 := by rw [wrap_in (by omega) (by omega)]
    refine gAnd_intro (decide_eq_true (by omega)) ⟨n, by omega, by rw [hn], gAnd_intro (rowsB_rb _) ?_⟩
    rw [row_aC, hw]
    refine gAnd_intro (decide_eq_true (by simp; omega)) (gAnd_intro (decide_eq_true (by simp; omega)) ?_)
    exact ih (k - 500) _ (by omega) (by omega) (by omega) (by simp; omega)
theorem c9 : COk cfg 9 (fun vs h K => ∃ (n m : Nat) (e : Bool), n < 65536 ∧ m < 65536 ∧ vs = [.int .u16 n, .int .u16 m, .bool e] ∧ K (.bool true) h) := by
  refine cok_pure pf9 fun vs h K ht => ?_
  obtain ⟨n, m, e, hn, hm, rfl, hk⟩ := ht
  have e1 : Int.tmod (n : Int) 2200 = ((n % 2200 : Nat) : Int) := by rw [Int.tmod_eq_emod_of_nonneg (by omega)]; rfl
  have e2 : Int.tmod (m : Int) 9000 = ((m % 9000 : Nat) : Int) := by rw [Int.tmod_eq_emod_of_nonneg (by omega)]; rfl
  have w1 : IntKind.wrap .i64 ((n % 2200 : Nat) : Int) = ((n % 2200 : Nat) : Int) := wrap_in (by omega) (by omega)
  have w2 : IntKind.wrap .i64 ((m % 9000 : Nat) : Int) = ((m % 9000 : Nat) : Int) := wrap_in (by omega) (by omega)
  refine ⟨_, hk, t9a tab9 ?_⟩
  rw [e1, e2, w1, w2]
  refine ⟨n % 2200, by omega, rfl, gAnd_intro (rowsB_rb _) ?_⟩
  rw [row_aC]
  refine gAnd_intro (decide_eq_true (by simp; omega)) (gAnd_intro (decide_eq_true (by simp; omega)) ?_)
  exact loop9 (by simp) (by simp; omega) 18 _ _ (by omega) (by omega) (by omega) (by simp)

/-! Back, and cut -/
theorem encG_len {l : List Nat} (hp : ∀ x ∈ l, 0 < x) : ∀ (g k : Nat) (s : List UInt8), s.length ≤ 1000000 → (encG l g k s).length ≤ 13 * s.length
  | 0, k, s, h => by simp [encG]
  | g + 1, k, s, h => by
    rw [encG]
    split
    · simp
    · rename_i hs
      obtain ⟨n1, n2⟩ := stepN_pos (k := k) hp (List.length_pos_iff.2 hs)
      generalize stepN l k s.length = n at *
      obtain ⟨k1, k2⟩ := chunk_len n1 n2 h
      have := encG_len hp g (k + 1) (s.drop n) (by simp; omega)
      simp [crlf] at k1 this ⊢
      omega
theorem encA_len {s : List UInt8} (l : List Int) (h : s.length ≤ 1000000) : (encA s l).length ≤ 13 * s.length + 5 := by
  have := encG_len (posL_pos l) s.length 0 s h
  unfold encA
  simp; omega
theorem clip_nat {n : Nat} (h : n ≤ 262144) : clip (n : Int) = n := by unfold clip; omega
theorem c11 : COk cfg 11 (fun vs h K => ∃ (s x : List UInt8) (l : List Int), (∀ n ∈ l, -9223372036854775808 ≤ n ∧ n ≤ 9223372036854775807) ∧ vs = [.str s, .sl 1 (encI' l) none, .str x] ∧ K (.bool true) h) := by
  have hT : TabOk cfg (ctab [(24, Ai.trueC), (28, encC), (31, givesC), (32, failsC)]) := ctab_ok (ctab_cons c24 (ctab_cons c28 (ctab_cons c31 (ctab_cons c32 ctab_nil))))
  refine cok_pure pf11 fun vs h K ht => ?_
  obtain ⟨s, x, l, hn, rfl, hk⟩ := ht
  refine ⟨_, hk, t11 hT (ifP_intro (fun a => ⟨rfl, rfl⟩) fun a => ifP_intro (fun b => ⟨rfl, rfl⟩) fun b => ifP_intro (fun c => ⟨rfl, rfl⟩) fun c => ?_)⟩
  have hs : s.length ≤ 20000 := by simp only [gt_iff_lt, decide_eq_false_iff_not] at a; omega
  have hl : l.length ≤ 100 := by simp only [gt_iff_lt, decide_eq_false_iff_not] at b; rw [encI'_len] at b; omega
  have hx : x.length ≤ 20000 := by simp only [gt_iff_lt, decide_eq_false_iff_not] at c; omega
  have hst : stripss 0 [] (encI' l) = encI' l := stripss_low 0 [] _ (low_encI' 0 l)
  have he := encA_len l (s := s) (by omega)
  have hd : decide ((encA s l).length + x.length ≤ 9223372036854775807) = true := decide_eq_true (by omega)
  have hlen : (encA s l ++ x).length ≤ 10000000 := by simp; omega
  have hg : givesB (encA s l ++ x) (s.length : Int) s ((encA s l).length : Nat) 0 = true := by
    have := decA_enc (s := s) l x (most := (s.length : Int)) (by omega)
    rw [clip_nat (by omega), if_pos (Nat.le_refl _)] at this
    unfold givesB
    rw [this]
    simp
  have go : (∃ (s9 b10 : List UInt8) (m11 u12 t13 : Int), s9.length ≤ 10000000 ∧ (-9223372036854775808 ≤ m11 ∧ m11 ≤ 9223372036854775807) ∧ [AV.str (encA s l ++ x), AV.int .i64 (s.length : Int), AV.str s, AV.int .i64 ((encA s l).length : Int), AV.int .i64 0] = [AV.str s9, AV.int .i64 m11, AV.str b10, AV.int .i64 u12, AV.int .i64 t13] ∧ ifP (givesB s9 m11 b10 u12 t13) (true = true ∧ AV.bool true = AV.bool true) (AV.bool false = AV.bool true)) :=
    ⟨_, _, _, _, _, hlen, by omega, rfl, ifP_intro (fun _ => ⟨rfl, rfl⟩) fun d => by rw [hg] at d; cases d⟩
  refine ⟨s, l, 1, by omega, by omega, hn, .inl rfl, by rw [hst], ifP_intro (fun e => gAnd_intro hd ⟨_, _, _, hlen, ?_, rfl, ifP_intro (fun d => ?_) fun _ => gAnd_intro hd go⟩) fun _ => gAnd_intro hd go⟩
  · rw [wrap_in (by omega) (by omega)]; omega
  · exfalso
    have hs0 : s ≠ [] := by simpa using e
    have hp : 0 < s.length := List.length_pos_iff.2 hs0
    have hw : IntKind.wrap .i64 ((s.length : Int) - 1) = ((s.length - 1 : Nat) : Int) := by rw [wrap_in (by omega) (by omega)]; omega
    have := decA_enc (s := s) l x (most := ((s.length - 1 : Nat) : Int)) (by omega)
    rw [clip_nat (by omega), if_neg (by omega)] at this
    rw [hw] at d
    unfold failsB at d
    rw [this] at d
    simp [decX] at d
theorem c12 : COk cfg 12 (fun vs h K => ∃ (s x : List UInt8) (n : Nat), n < 65536 ∧ vs = [.str s, .int .u16 n, .str x] ∧ K (.bool true) h) := by
  have hT : TabOk cfg (ctab [(24, Ai.trueC), (25, decC), (32, failsC), (27, sameFsC)]) := ctab_ok (ctab_cons c24 (ctab_cons c25 (ctab_cons c32 (ctab_cons c27 ctab_nil))))
  refine cok_pure pf12 fun vs h K ht => ?_
  obtain ⟨s, x, n, hn, rfl, hk⟩ := ht
  refine ⟨_, hk, t12 hT (ifP_intro (fun a => ⟨rfl, rfl⟩) fun a => ifP_intro (fun b => ⟨rfl, rfl⟩) fun b => ?_)⟩
  have hs : s.length ≤ 3000 := by simp only [gt_iff_lt, decide_eq_false_iff_not] at a; omega
  have hx : x.length ≤ 3000 := by simp only [gt_iff_lt, decide_eq_false_iff_not] at b; omega
  refine ⟨s, 5000, by omega, by omega, by omega, rfl, ?_⟩
  have htr := decA_tr s 5000
  rcases decA_e s 5000 with h0 | h0
  · obtain ⟨c1, c2, c3, c4⟩ := decA_cut h0
    have h4 := c4 x
    generalize hd : decA s 5000 = d at *
    have e1 : Int.tmod (IntKind.wrap .i64 (n : Int)) (d.used : Int) = ((n % d.used : Nat) : Int) := by
      rw [wrap_in (by omega) (by omega), Int.tmod_eq_emod_of_nonneg (by omega)]; rfl
    have hmod : n % d.used < d.used := Nat.mod_lt _ (by omega)
    rw [e1]
    refine ifP_intro (fun q => absurd h0 (ne_of_bne q)) fun _ => ifP_intro (fun q => by simp only [decide_eq_true_eq] at q; omega) fun _ => ifP_intro (fun q => by simp only [gt_iff_lt, decide_eq_true_eq] at q; omega) fun _ => gAnd_intro (cutOb_to c2) ?_
    rw [cut_to, cut_to]
    refine gAnd_intro (decide_eq_true (by simp; omega)) ⟨_, 5000, by simp; omega, by omega, by omega, rfl, gAnd_intro (by simp; omega) (gAnd_intro (cutOb_to (by omega)) ⟨_, 5000, 6, by simp; omega, by omega, rfl, ifP_intro (fun _ => ?_) fun q => ?_⟩)⟩
    · rw [h4]
      refine ifP_intro (fun _ => ifP_intro (fun _ => ⟨d.tr, d.tr, 2, 2, htr, .inl rfl, .inl rfl, by rw [stripss_encFs], ifP_intro (fun _ => ifP_intro (fun _ => ⟨rfl, rfl⟩) fun q => ?_) fun q => ?_⟩) fun q => ?_) fun q => ?_
      · rw [h0] at q; simp at q
      · rw [sameFs_refl] at q; cases q
      · simp at q
      · simp at q
    · unfold failsB at q
      rw [c3 _ hmod] at q
      simp [decX] at q
  · have h1 : (decA s 5000).e ≠ 0 ∨ (decA s 5000).e = 0 := by omega
    rcases h1 with h1 | h1
    · generalize he : (decA s 5000).e = e at *
      rw [h0]
      refine ifP_intro (fun _ => ifP_intro (fun _ => ifP_intro (fun _ => ifP_intro (fun _ => ⟨rfl, rfl⟩) fun q => by simp [decX, encFs] at q) fun q => by simp [decX] at q) fun q => by simp [decX] at q) fun q => absurd (eq_of_bne q) (by simpa [decX] using h1)
    · exfalso
      obtain ⟨c1, _⟩ := decA_cut h1
      rw [h0] at c1
      simp [decX] at c1
end Go.Proofs.YtnncfdlpogjlkaaDoor
end
