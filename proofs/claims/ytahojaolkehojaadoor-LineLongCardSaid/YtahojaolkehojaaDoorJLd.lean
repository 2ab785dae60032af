/-
  Runs of functions of start lines, printed by a home tool; each is the kernel's word.
  Start lines: what is put, the program's and the document's.
  Start lines: the document's readers, and how it puts a reply's line.
  Start lines: the document's reader of a request's line.
-/
import Derived.Test.YtahojaolkehojaaDoorCfg
import Derived.Test.YtahojaolkehojaaDoorJLb
import Derived.Test.YtahojaolkehojaaDoorJLc
section
namespace Go.Proofs.YtahojaolkehojaaDoor
open Go.Ai Go
set_option maxRecDepth 100000
set_option linter.unusedVariables false
theorem t14 {v : AV} {a b : List UInt8} {n : Int} (hT : TabOk cfg (ctab [(24, holdsC), (25, strC tokenB), (35, doneC), (36, itoaC)])) (H :
    ∃ (s1 : List UInt8), List.length s1 ≤ 100000 ∧ [AV.str a] = [AV.str s1] ∧ ifP (!tokenB s1) (gAnd (decide (List.length a + 1 ≤ 9223372036854775807)) (gAnd (decide (List.length (a ++ [32]) + List.length b ≤ 9223372036854775807)) (gAnd (decide (List.length (a ++ [32] ++ b) + 8 ≤ 9223372036854775807)) (∃ (n2 : Int), -9223372036854775808 ≤ n2 ∧ n2 ≤ 9223372036854775807 ∧ [AV.int IntKind.i64 n] = [AV.int IntKind.i64 n2] ∧ gAnd (decide (List.length (a ++ [32] ++ b ++ [32, 72, 84, 84, 80, 47, 49, 46]) + List.length (itoaS n2) ≤ 9223372036854775807)) (∃ (mi3 : Int), ∃ (bad4 : Bool), ∃ (s5 : List UInt8), List.length s5 ≤ 100000 ∧ [AV.int IntKind.i64 n, AV.bool true, AV.str (a ++ [32] ++ b ++ [32, 72, 84, 84, 80, 47, 49, 46] ++ itoaS n2)] = [AV.int IntKind.i64 mi3, AV.bool bad4, AV.str s5] ∧ ifP (Prod.snd (doneB mi3 bad4 s5) == 0) (ifP (decide ((↑(List.length b) : Int) > 1024)) (AV.tup [AV.str [], AV.int IntKind.i64 3] = v) (AV.tup [AV.str (Prod.fst (doneB mi3 bad4 s5)), AV.int IntKind.i64 (Prod.snd (doneB mi3 bad4 s5))] = v)) (AV.tup [AV.str (Prod.fst (doneB mi3 bad4 s5)), AV.int IntKind.i64 (Prod.snd (doneB mi3 bad4 s5))] = v)))))) (ifP (b == []) (gAnd (decide (List.length a + 1 ≤ 9223372036854775807)) (gAnd (decide (List.length (a ++ [32]) + List.length b ≤ 9223372036854775807)) (gAnd (decide (List.length (a ++ [32] ++ b) + 8 ≤ 9223372036854775807)) (∃ (n6 : Int), -9223372036854775808 ≤ n6 ∧ n6 ≤ 9223372036854775807 ∧ [AV.int IntKind.i64 n] = [AV.int IntKind.i64 n6] ∧ gAnd (decide (List.length (a ++ [32] ++ b ++ [32, 72, 84, 84, 80, 47, 49, 46]) + List.length (itoaS n6) ≤ 9223372036854775807)) (∃ (mi7 : Int), ∃ (bad8 : Bool), ∃ (s9 : List UInt8), List.length s9 ≤ 100000 ∧ [AV.int IntKind.i64 n, AV.bool true, AV.str (a ++ [32] ++ b ++ [32, 72, 84, 84, 80, 47, 49, 46] ++ itoaS n6)] = [AV.int IntKind.i64 mi7, AV.bool bad8, AV.str s9] ∧ ifP (Prod.snd (doneB mi7 bad8 s9) == 0) (ifP (decide ((↑(List.length b) : Int) > 1024)) (AV.tup [AV.str [], AV.int IntKind.i64 3] = v) (AV.tup [AV.str (Prod.fst (doneB mi7 bad8 s9)), AV.int IntKind.i64 (Prod.snd (doneB mi7 bad8 s9))] = v)) (AV.tup [AV.str (Prod.fst (doneB mi7 bad8 s9)), AV.int IntKind.i64 (Prod.snd (doneB mi7 bad8 s9))] = v)))))) (∃ (l10 : List UInt8), ∃ (s11 : List UInt8), List.length l10 ≤ 6 ∧ List.length l10 % 2 = 0 ∧ List.length s11 ≤ 100000 ∧ [AV.str [33, 126], AV.str b] = [AV.str l10, AV.str s11] ∧ gAnd (decide (List.length a + 1 ≤ 9223372036854775807)) (gAnd (decide (List.length (a ++ [32]) + List.length b ≤ 9223372036854775807)) (gAnd (decide (List.length (a ++ [32] ++ b) + 8 ≤ 9223372036854775807)) (∃ (n12 : Int), -9223372036854775808 ≤ n12 ∧ n12 ≤ 9223372036854775807 ∧ [AV.int IntKind.i64 n] = [AV.int IntKind.i64 n12] ∧ gAnd (decide (List.length (a ++ [32] ++ b ++ [32, 72, 84, 84, 80, 47, 49, 46]) + List.length (itoaS n12) ≤ 9223372036854775807)) (∃ (mi13 : Int), ∃ (bad14 : Bool), ∃ (s15 : List UInt8), List.length s15 ≤ 100000 ∧ [AV.int IntKind.i64 n, AV.bool !List.all s11 (inL l10), AV.str (a ++ [32] ++ b ++ [32, 72, 84, 84, 80, 47, 49, 46] ++ itoaS n12)] = [AV.int IntKind.i64 mi13, AV.bool bad14, AV.str s15] ∧ ifP (Prod.snd (doneB mi13 bad14 s15) == 0) (ifP (decide ((↑(List.length b) : Int) > 1024)) (AV.tup [AV.str [], AV.int IntKind.i64 3] = v) (AV.tup [AV.str (Prod.fst (doneB mi13 bad14 s15)), AV.int IntKind.i64 (Prod.snd (doneB mi13 bad14 s15))] = v)) (AV.tup [AV.str (Prod.fst (doneB mi13 bad14 s15)), AV.int IntKind.i64 (Prod.snd (doneB mi13 bad14 s15))] = v)))))))) :
    ToEnd cfg 14 (bodyOf Tryd.f14) (RetIs Tryd.prog Tryd.f14 v) ([.code []]) .normal ([(0, true, .str a), (1, true, .str b), (2, true, .int .i64 n)]) ([]) := by
  have e : unr cfg 14 (bodyOf Tryd.f14) (ctab [(24, holdsC), (25, strC tokenB), (35, doneC), (36, itoaC)]) ⟨[], []⟩ (RetIs Tryd.prog Tryd.f14 v) 100000 ([.code []]) .normal ([(0, true, .str a), (1, true, .str b), (2, true, .int .i64 n)]) ([]) =
    (∃ (s1 : List UInt8), List.length s1 ≤ 100000 ∧ [AV.str a] = [AV.str s1] ∧ ifP (!tokenB s1) (gAnd (decide (List.length a + 1 ≤ 9223372036854775807)) (gAnd (decide (List.length (a ++ [32]) + List.length b ≤ 9223372036854775807)) (gAnd (decide (List.length (a ++ [32] ++ b) + 8 ≤ 9223372036854775807)) (∃ (n2 : Int), -9223372036854775808 ≤ n2 ∧ n2 ≤ 9223372036854775807 ∧ [AV.int IntKind.i64 n] = [AV.int IntKind.i64 n2] ∧ gAnd (decide (List.length (a ++ [32] ++ b ++ [32, 72, 84, 84, 80, 47, 49, 46]) + List.length (itoaS n2) ≤ 9223372036854775807)) (∃ (mi3 : Int), ∃ (bad4 : Bool), ∃ (s5 : List UInt8), List.length s5 ≤ 100000 ∧ [AV.int IntKind.i64 n, AV.bool true, AV.str (a ++ [32] ++ b ++ [32, 72, 84, 84, 80, 47, 49, 46] ++ itoaS n2)] = [AV.int IntKind.i64 mi3, AV.bool bad4, AV.str s5] ∧ ifP (Prod.snd (doneB mi3 bad4 s5) == 0) (ifP (decide ((↑(List.length b) : Int) > 1024)) (AV.tup [AV.str [], AV.int IntKind.i64 3] = v) (AV.tup [AV.str (Prod.fst (doneB mi3 bad4 s5)), AV.int IntKind.i64 (Prod.snd (doneB mi3 bad4 s5))] = v)) (AV.tup [AV.str (Prod.fst (doneB mi3 bad4 s5)), AV.int IntKind.i64 (Prod.snd (doneB mi3 bad4 s5))] = v)))))) (ifP (b == []) (gAnd (decide (List.length a + 1 ≤ 9223372036854775807)) (gAnd (decide (List.length (a ++ [32]) + List.length b ≤ 9223372036854775807)) (gAnd (decide (List.length (a ++ [32] ++ b) + 8 ≤ 9223372036854775807)) (∃ (n6 : Int), -9223372036854775808 ≤ n6 ∧ n6 ≤ 9223372036854775807 ∧ [AV.int IntKind.i64 n] = [AV.int IntKind.i64 n6] ∧ gAnd (decide (List.length (a ++ [32] ++ b ++ [32, 72, 84, 84, 80, 47, 49, 46]) + List.length (itoaS n6) ≤ 9223372036854775807)) (∃ (mi7 : Int), ∃ (bad8 : Bool), ∃ (s9 : List UInt8), List.length s9 ≤ 100000 ∧ [AV.int IntKind.i64 n, AV.bool true, AV.str (a ++ [32] ++ b ++ [32, 72, 84, 84, 80, 47, 49, 46] ++ itoaS n6)] = [AV.int IntKind.i64 mi7, AV.bool bad8, AV.str s9] ∧ ifP (Prod.snd (doneB mi7 bad8 s9) == 0) (ifP (decide ((↑(List.length b) : Int) > 1024)) (AV.tup [AV.str [], AV.int IntKind.i64 3] = v) (AV.tup [AV.str (Prod.fst (doneB mi7 bad8 s9)), AV.int IntKind.i64 (Prod.snd (doneB mi7 bad8 s9))] = v)) (AV.tup [AV.str (Prod.fst (doneB mi7 bad8 s9)), AV.int IntKind.i64 (Prod.snd (doneB mi7 bad8 s9))] = v)))))) (∃ (l10 : List UInt8), ∃ (s11 : List UInt8), List.length l10 ≤ 6 ∧ List.length l10 % 2 = 0 ∧ List.length s11 ≤ 100000 ∧ [AV.str [33, 126], AV.str b] = [AV.str l10, AV.str s11] ∧ gAnd (decide (List.length a + 1 ≤ 9223372036854775807)) (gAnd (decide (List.length (a ++ [32]) + List.length b ≤ 9223372036854775807)) (gAnd (decide (List.length (a ++ [32] ++ b) + 8 ≤ 9223372036854775807)) (∃ (n12 : Int), -9223372036854775808 ≤ n12 ∧ n12 ≤ 9223372036854775807 ∧ [AV.int IntKind.i64 n] = [AV.int IntKind.i64 n12] ∧ gAnd (decide (List.length (a ++ [32] ++ b ++ [32, 72, 84, 84, 80, 47, 49, 46]) + List.length (itoaS n12) ≤ 9223372036854775807)) (∃ (mi13 : Int), ∃ (bad14 : Bool), ∃ (s15 : List UInt8), List.length s15 ≤ 100000 ∧ [AV.int IntKind.i64 n, AV.bool !List.all s11 (inL l10), AV.str (a ++ [32] ++ b ++ [32, 72, 84, 84, 80, 47, 49, 46] ++ itoaS n12)] = [AV.int IntKind.i64 mi13, AV.bool bad14, AV.str s15] ∧ ifP (Prod.snd (doneB mi13 bad14 s15) == 0) (ifP (decide ((↑(List.length b) : Int) > 1024)) (AV.tup [AV.str [], AV.int IntKind.i64 3] = v) (AV.tup [AV.str (Prod.fst (doneB mi13 bad14 s15)), AV.int IntKind.i64 (Prod.snd (doneB mi13 bad14 s15))] = v)) (AV.tup [AV.str (Prod.fst (doneB mi13 bad14 s15)), AV.int IntKind.i64 (Prod.snd (doneB mi13 bad14 s15))] = v)))))))) := by kernel_rfl
  exact unr_ok hT 100000 _ _ _ _ (e.mpr H)

theorem t16 {v : AV} {st n : Int} {w : List UInt8} (hT : TabOk cfg (ctab [(24, holdsC), (35, doneC), (36, itoaC)])) (H :
    ifP (decide (st < 100)) (∃ (n1 : Int), -9223372036854775808 ≤ n1 ∧ n1 ≤ 9223372036854775807 ∧ [AV.int IntKind.i64 n] = [AV.int IntKind.i64 n1] ∧ gAnd (decide (7 + List.length (itoaS n1) ≤ 9223372036854775807)) (gAnd (decide (List.length (72 :: 84 :: 84 :: 80 :: 47 :: 49 :: 46 :: List.append [] (itoaS n1)) + 1 ≤ 9223372036854775807)) (∃ (n2 : Int), -9223372036854775808 ≤ n2 ∧ n2 ≤ 9223372036854775807 ∧ [AV.int IntKind.i64 st] = [AV.int IntKind.i64 n2] ∧ gAnd (decide (List.length (72 :: 84 :: 84 :: 80 :: 47 :: 49 :: 46 :: List.append (List.append [] (itoaS n1)) [32]) + List.length (itoaS n2) ≤ 9223372036854775807)) (gAnd (decide (List.length (72 :: 84 :: 84 :: 80 :: 47 :: 49 :: 46 :: List.append (List.append (List.append [] (itoaS n1)) [32]) (itoaS n2)) + 1 ≤ 9223372036854775807)) (gAnd (decide (List.length (72 :: 84 :: 84 :: 80 :: 47 :: 49 :: 46 :: List.append (List.append (List.append (List.append [] (itoaS n1)) [32]) (itoaS n2)) [32]) + List.length w ≤ 9223372036854775807)) (∃ (mi3 : Int), ∃ (bad4 : Bool), ∃ (s5 : List UInt8), List.length s5 ≤ 100000 ∧ [AV.int IntKind.i64 n, AV.bool true, AV.str (72 :: 84 :: 84 :: 80 :: 47 :: 49 :: 46 :: List.append (List.append (List.append (List.append (List.append [] (itoaS n1)) [32]) (itoaS n2)) [32]) w)] = [AV.int IntKind.i64 mi3, AV.bool bad4, AV.str s5] ∧ AV.tup [AV.str (Prod.fst (doneB mi3 bad4 s5)), AV.int IntKind.i64 (Prod.snd (doneB mi3 bad4 s5))] = v))))))
  (ifP (decide (st > 599)) (∃ (n6 : Int), -9223372036854775808 ≤ n6 ∧ n6 ≤ 9223372036854775807 ∧ [AV.int IntKind.i64 n] = [AV.int IntKind.i64 n6] ∧ gAnd (decide (7 + List.length (itoaS n6) ≤ 9223372036854775807)) (gAnd (decide (List.length (72 :: 84 :: 84 :: 80 :: 47 :: 49 :: 46 :: List.append [] (itoaS n6)) + 1 ≤ 9223372036854775807)) (∃ (n7 : Int), -9223372036854775808 ≤ n7 ∧ n7 ≤ 9223372036854775807 ∧ [AV.int IntKind.i64 st] = [AV.int IntKind.i64 n7] ∧ gAnd (decide (List.length (72 :: 84 :: 84 :: 80 :: 47 :: 49 :: 46 :: List.append (List.append [] (itoaS n6)) [32]) + List.length (itoaS n7) ≤ 9223372036854775807)) (gAnd (decide (List.length (72 :: 84 :: 84 :: 80 :: 47 :: 49 :: 46 :: List.append (List.append (List.append [] (itoaS n6)) [32]) (itoaS n7)) + 1 ≤ 9223372036854775807)) (gAnd (decide (List.length (72 :: 84 :: 84 :: 80 :: 47 :: 49 :: 46 :: List.append (List.append (List.append (List.append [] (itoaS n6)) [32]) (itoaS n7)) [32]) + List.length w ≤ 9223372036854775807)) (∃ (mi8 : Int), ∃ (bad9 : Bool), ∃ (s10 : List UInt8), List.length s10 ≤ 100000 ∧ [AV.int IntKind.i64 n, AV.bool true, AV.str (72 :: 84 :: 84 :: 80 :: 47 :: 49 :: 46 :: List.append (List.append (List.append (List.append (List.append [] (itoaS n6)) [32]) (itoaS n7)) [32]) w)] = [AV.int IntKind.i64 mi8, AV.bool bad9, AV.str s10] ∧ AV.tup [AV.str (Prod.fst (doneB mi8 bad9 s10)), AV.int IntKind.i64 (Prod.snd (doneB mi8 bad9 s10))] = v)))))) (∃ (l11 : List UInt8), ∃ (s12 : List UInt8), List.length l11 ≤ 6 ∧ List.length l11 % 2 = 0 ∧ List.length s12 ≤ 100000 ∧ [AV.str [9, 9, 32, 126, 128, 255], AV.str w] = [AV.str l11, AV.str s12] ∧ ∃ (n13 : Int), -9223372036854775808 ≤ n13 ∧ n13 ≤ 9223372036854775807 ∧ [AV.int IntKind.i64 n] = [AV.int IntKind.i64 n13] ∧ gAnd (decide (7 + List.length (itoaS n13) ≤ 9223372036854775807)) (gAnd (decide (List.length (72 :: 84 :: 84 :: 80 :: 47 :: 49 :: 46 :: List.append [] (itoaS n13)) + 1 ≤ 9223372036854775807)) (∃ (n14 : Int), -9223372036854775808 ≤ n14 ∧ n14 ≤ 9223372036854775807 ∧ [AV.int IntKind.i64 st] = [AV.int IntKind.i64 n14] ∧ gAnd (decide (List.length (72 :: 84 :: 84 :: 80 :: 47 :: 49 :: 46 :: List.append (List.append [] (itoaS n13)) [32]) + List.length (itoaS n14) ≤ 9223372036854775807)) (gAnd (decide (List.length (72 :: 84 :: 84 :: 80 :: 47 :: 49 :: 46 :: List.append (List.append (List.append [] (itoaS n13)) [32]) (itoaS n14)) + 1 ≤ 9223372036854775807)) (gAnd (decide (List.length (72 :: 84 :: 84 :: 80 :: 47 :: 49 :: 46 :: List.append (List.append (List.append (List.append [] (itoaS n13)) [32]) (itoaS n14)) [32]) + List.length w ≤ 9223372036854775807)) (∃ (mi15 : Int), ∃ (bad16 : Bool), ∃ (s17 : List UInt8), List.length s17 ≤ 100000 ∧ [AV.int IntKind.i64 n, AV.bool !List.all s12 (inL l11), AV.str (72 :: 84 :: 84 :: 80 :: 47 :: 49 :: 46 :: List.append (List.append (List.append (List.append (List.append [] (itoaS n13)) [32]) (itoaS n14)) [32]) w)] = [AV.int IntKind.i64 mi15, AV.bool bad16, AV.str s17] ∧ AV.tup [AV.str (Prod.fst (doneB mi15 bad16 s17)), AV.int IntKind.i64 (Prod.snd (doneB mi15 bad16 s17))] = v)))))))) :
    ToEnd cfg 16 (bodyOf Tryd.f16) (RetIs Tryd.prog Tryd.f16 v) ([.code []]) .normal ([(0, true, .int .i64 st), (1, true, .str w), (2, true, .int .i64 n)]) ([]) := by
  have e : unr cfg 16 (bodyOf Tryd.f16) (ctab [(24, holdsC), (35, doneC), (36, itoaC)]) ⟨[], []⟩ (RetIs Tryd.prog Tryd.f16 v) 100000 ([.code []]) .normal ([(0, true, .int .i64 st), (1, true, .str w), (2, true, .int .i64 n)]) ([]) =
    (ifP (decide (st < 100)) (∃ (n1 : Int), -9223372036854775808 ≤ n1 ∧ n1 ≤ 9223372036854775807 ∧ [AV.int IntKind.i64 n] = [AV.int IntKind.i64 n1] ∧ gAnd (decide (7 + List.length (itoaS n1) ≤ 9223372036854775807)) (gAnd (decide (List.length (72 :: 84 :: 84 :: 80 :: 47 :: 49 :: 46 :: List.append [] (itoaS n1)) + 1 ≤ 9223372036854775807)) (∃ (n2 : Int), -9223372036854775808 ≤ n2 ∧ n2 ≤ 9223372036854775807 ∧ [AV.int IntKind.i64 st] = [AV.int IntKind.i64 n2] ∧ gAnd (decide (List.length (72 :: 84 :: 84 :: 80 :: 47 :: 49 :: 46 :: List.append (List.append [] (itoaS n1)) [32]) + List.length (itoaS n2) ≤ 9223372036854775807)) (gAnd (decide (List.length (72 :: 84 :: 84 :: 80 :: 47 :: 49 :: 46 :: List.append (List.append (List.append [] (itoaS n1)) [32]) (itoaS n2)) + 1 ≤ 9223372036854775807)) (gAnd (decide (List.length (72 :: 84 :: 84 :: 80 :: 47 :: 49 :: 46 :: List.append (List.append (List.append (List.append [] (itoaS n1)) [32]) (itoaS n2)) [32]) + List.length w ≤ 9223372036854775807)) (∃ (mi3 : Int), ∃ (bad4 : Bool), ∃ (s5 : List UInt8), List.length s5 ≤ 100000 ∧ [AV.int IntKind.i64 n, AV.bool true, AV.str (72 :: 84 :: 84 :: 80 :: 47 :: 49 :: 46 :: List.append (List.append (List.append (List.append (List.append [] (itoaS n1)) [32]) (itoaS n2)) [32]) w)] = [AV.int IntKind.i64 mi3, AV.bool bad4, AV.str s5] ∧ AV.tup [AV.str (Prod.fst (doneB mi3 bad4 s5)), AV.int IntKind.i64 (Prod.snd (doneB mi3 bad4 s5))] = v))))))
  (ifP (decide (st > 599)) (∃ (n6 : Int), -9223372036854775808 ≤ n6 ∧ n6 ≤ 9223372036854775807 ∧ [AV.int IntKind.i64 n] = [AV.int IntKind.i64 n6] ∧ gAnd (decide (7 + List.length (itoaS n6) ≤ 9223372036854775807)) (gAnd (decide (List.length (72 :: 84 :: 84 :: 80 :: 47 :: 49 :: 46 :: List.append [] (itoaS n6)) + 1 ≤ 9223372036854775807)) (∃ (n7 : Int), -9223372036854775808 ≤ n7 ∧ n7 ≤ 9223372036854775807 ∧ [AV.int IntKind.i64 st] = [AV.int IntKind.i64 n7] ∧ gAnd (decide (List.length (72 :: 84 :: 84 :: 80 :: 47 :: 49 :: 46 :: List.append (List.append [] (itoaS n6)) [32]) + List.length (itoaS n7) ≤ 9223372036854775807)) (gAnd (decide (List.length (72 :: 84 :: 84 :: 80 :: 47 :: 49 :: 46 :: List.append (List.append (List.append [] (itoaS n6)) [32]) (itoaS n7)) + 1 ≤ 9223372036854775807)) (gAnd (decide (List.length (72 :: 84 :: 84 :: 80 :: 47 :: 49 :: 46 :: List.append (List.append (List.append (List.append [] (itoaS n6)) [32]) (itoaS n7)) [32]) + List.length w ≤ 9223372036854775807)) (∃ (mi8 : Int), ∃ (bad9 : Bool), ∃ (s10 : List UInt8), List.length s10 ≤ 100000 ∧ [AV.int IntKind.i64 n, AV.bool true, AV.str (72 :: 84 :: 84 :: 80 :: 47 :: 49 :: 46 :: List.append (List.append (List.append (List.append (List.append [] (itoaS n6)) [32]) (itoaS n7)) [32]) w)] = [AV.int IntKind.i64 mi8, AV.bool bad9, AV.str s10] ∧ AV.tup [AV.str (Prod.fst (doneB mi8 bad9 s10)), AV.int IntKind.i64 (Prod.snd (doneB mi8 bad9 s10))] = v)))))) (∃ (l11 : List UInt8), ∃ (s12 : List UInt8), List.length l11 ≤ 6 ∧ List.length l11 % 2 = 0 ∧ List.length s12 ≤ 100000 ∧ [AV.str [9, 9, 32, 126, 128, 255], AV.str w] = [AV.str l11, AV.str s12] ∧ ∃ (n13 : Int), -9223372036854775808 ≤ n13 ∧ n13 ≤ 9223372036854775807 ∧ [AV.int IntKind.i64 n] = [AV.int IntKind.i64 n13] ∧ gAnd (decide (7 + List.length (itoaS n13) ≤ 9223372036854775807)) (gAnd (decide (List.length (72 :: 84 :: 84 :: 80 :: 47 :: 49 :: 46 :: List.append [] (itoaS n13)) + 1 ≤ 9223372036854775807)) (∃ (n14 : Int), -9223372036854775808 ≤ n14 ∧ n14 ≤ 9223372036854775807 ∧ [AV.int IntKind.i64 st] = [AV.int IntKind.i64 n14] ∧ gAnd (decide (List.length (72 :: 84 :: 84 :: 80 :: 47 :: 49 :: 46 :: List.append (List.append [] (itoaS n13)) [32]) + List.length (itoaS n14) ≤ 9223372036854775807)) (gAnd (decide (List.length (72 :: 84 :: 84 :: 80 :: 47 :: 49 :: 46 :: List.append (List.append (List.append [] (itoaS n13)) [32]) (itoaS n14)) + 1 ≤ 9223372036854775807)) (gAnd (decide (List.length (72 :: 84 :: 84 :: 80 :: 47 :: 49 :: 46 :: List.append (List.append (List.append (List.append [] (itoaS n13)) [32]) (itoaS n14)) [32]) + List.length w ≤ 9223372036854775807)) (∃ (mi15 : Int), ∃ (bad16 : Bool), ∃ (s17 : List UInt8), List.length s17 ≤ 100000 ∧ [AV.int IntKind.i64 n, AV.bool !List.all s12 (inL l11), AV.str (72 :: 84 :: 84 :: 80 :: 47 :: 49 :: 46 :: List.append (List.append (List.append (List.append (List.append [] (itoaS n13)) [32]) (itoaS n14)) [32]) w)] = [AV.int IntKind.i64 mi15, AV.bool bad16, AV.str s17] ∧ AV.tup [AV.str (Prod.fst (doneB mi15 bad16 s17)), AV.int IntKind.i64 (Prod.snd (doneB mi15 bad16 s17))] = v)))))))) := by kernel_rfl
  exact unr_ok hT 100000 _ _ _ _ (e.mpr H)

theorem t15 {v : AV} {a b : List UInt8} {n : Int} (hT : TabOk cfg (ctab [(28, strC tokenB), (29, strC (fun s => s.all targetB && !s.isEmpty)), (37, versC)])) (H :
    ∃ (s1 : List UInt8), List.length s1 ≤ 100000 ∧ [AV.str a] = [AV.str s1] ∧ ifP (!tokenB s1) (AV.tup [AV.str [], AV.int IntKind.i64 4] = v) (∃ (s2 : List UInt8), List.length s2 ≤ 100000 ∧ [AV.str b] = [AV.str s2] ∧ ifP (!(List.all s2 targetB && !List.isEmpty s2)) (AV.tup [AV.str [], AV.int IntKind.i64 4] = v) (ifP (n != 0) (ifP (n != 1) (AV.tup [AV.str [], AV.int IntKind.i64 4] = v) (gAnd (decide (List.length a + 1 ≤ 9223372036854775807)) (gAnd (decide (List.length (a ++ [32]) + List.length b ≤ 9223372036854775807)) (gAnd (decide (List.length (a ++ [32] ++ b) + 1 ≤ 9223372036854775807)) (∃ (n3 : Int), [AV.int IntKind.i64 n] = [AV.int IntKind.i64 n3] ∧ gAnd (decide (List.length (a ++ [32] ++ b ++ [32]) + List.length (verM n3) ≤ 9223372036854775807)) (ifP (decide ((↑(List.length b) : Int) > 1024)) (AV.tup [AV.str [], AV.int IntKind.i64 3] = v) (ifP (decide ((↑(List.length (a ++ [32] ++ b ++ [32] ++ verM n3)) : Int) > 2048)) (AV.tup [AV.str [], AV.int IntKind.i64 3] = v) (AV.tup [AV.str (a ++ [32] ++ b ++ [32] ++ verM n3), AV.int IntKind.i64 0] = v)))))))) (gAnd (decide (List.length a + 1 ≤ 9223372036854775807)) (gAnd (decide (List.length (a ++ [32]) + List.length b ≤ 9223372036854775807)) (gAnd (decide (List.length (a ++ [32] ++ b) + 1 ≤ 9223372036854775807)) (∃ (n4 : Int), [AV.int IntKind.i64 n] = [AV.int IntKind.i64 n4] ∧ gAnd (decide (List.length (a ++ [32] ++ b ++ [32]) + List.length (verM n4) ≤ 9223372036854775807)) (ifP (decide ((↑(List.length b) : Int) > 1024)) (AV.tup [AV.str [], AV.int IntKind.i64 3] = v) (ifP (decide ((↑(List.length (a ++ [32] ++ b ++ [32] ++ verM n4)) : Int) > 2048)) (AV.tup [AV.str [], AV.int IntKind.i64 3] = v) (AV.tup [AV.str (a ++ [32] ++ b ++ [32] ++ verM n4), AV.int IntKind.i64 0] = v)))))))))) :
    ToEnd cfg 15 (bodyOf Tryd.f15) (RetIs Tryd.prog Tryd.f15 v) ([.code []]) .normal ([(0, true, .str a), (1, true, .str b), (2, true, .int .i64 n)]) ([]) := by
  have e : unr cfg 15 (bodyOf Tryd.f15) (ctab [(28, strC tokenB), (29, strC (fun s => s.all targetB && !s.isEmpty)), (37, versC)]) ⟨[], []⟩ (RetIs Tryd.prog Tryd.f15 v) 100000 ([.code []]) .normal ([(0, true, .str a), (1, true, .str b), (2, true, .int .i64 n)]) ([]) =
    (∃ (s1 : List UInt8), List.length s1 ≤ 100000 ∧ [AV.str a] = [AV.str s1] ∧ ifP (!tokenB s1) (AV.tup [AV.str [], AV.int IntKind.i64 4] = v) (∃ (s2 : List UInt8), List.length s2 ≤ 100000 ∧ [AV.str b] = [AV.str s2] ∧ ifP (!(List.all s2 targetB && !List.isEmpty s2)) (AV.tup [AV.str [], AV.int IntKind.i64 4] = v) (ifP (n != 0) (ifP (n != 1) (AV.tup [AV.str [], AV.int IntKind.i64 4] = v) (gAnd (decide (List.length a + 1 ≤ 9223372036854775807)) (gAnd (decide (List.length (a ++ [32]) + List.length b ≤ 9223372036854775807)) (gAnd (decide (List.length (a ++ [32] ++ b) + 1 ≤ 9223372036854775807)) (∃ (n3 : Int), [AV.int IntKind.i64 n] = [AV.int IntKind.i64 n3] ∧ gAnd (decide (List.length (a ++ [32] ++ b ++ [32]) + List.length (verM n3) ≤ 9223372036854775807)) (ifP (decide ((↑(List.length b) : Int) > 1024)) (AV.tup [AV.str [], AV.int IntKind.i64 3] = v) (ifP (decide ((↑(List.length (a ++ [32] ++ b ++ [32] ++ verM n3)) : Int) > 2048)) (AV.tup [AV.str [], AV.int IntKind.i64 3] = v) (AV.tup [AV.str (a ++ [32] ++ b ++ [32] ++ verM n3), AV.int IntKind.i64 0] = v)))))))) (gAnd (decide (List.length a + 1 ≤ 9223372036854775807)) (gAnd (decide (List.length (a ++ [32]) + List.length b ≤ 9223372036854775807)) (gAnd (decide (List.length (a ++ [32] ++ b) + 1 ≤ 9223372036854775807)) (∃ (n4 : Int), [AV.int IntKind.i64 n] = [AV.int IntKind.i64 n4] ∧ gAnd (decide (List.length (a ++ [32] ++ b ++ [32]) + List.length (verM n4) ≤ 9223372036854775807)) (ifP (decide ((↑(List.length b) : Int) > 1024)) (AV.tup [AV.str [], AV.int IntKind.i64 3] = v) (ifP (decide ((↑(List.length (a ++ [32] ++ b ++ [32] ++ verM n4)) : Int) > 2048)) (AV.tup [AV.str [], AV.int IntKind.i64 3] = v) (AV.tup [AV.str (a ++ [32] ++ b ++ [32] ++ verM n4), AV.int IntKind.i64 0] = v)))))))))) := by kernel_rfl
  exact unr_ok hT 100000 _ _ _ _ (e.mpr H)

theorem t17 {v : AV} {st n : Int} {w : List UInt8} (hT : TabOk cfg (ctab [(34, strC fun s => s.all reasonB), (37, versC)])) (H :
    ifP (decide (st < 100)) (AV.tup [AV.str [], AV.int IntKind.i64 4] = v)
  (ifP (decide (st > 599)) (AV.tup [AV.str [], AV.int IntKind.i64 4] = v)
    (∃ (s1 : List UInt8),
      List.length s1 ≤ 100000 ∧
        [AV.str w] = [AV.str s1] ∧
          ifP (!List.all s1 reasonB) (AV.tup [AV.str [], AV.int IntKind.i64 4] = v)
            (ifP (n != 0) (ifP (n != 1) (AV.tup [AV.str [], AV.int IntKind.i64 4] = v) (gAnd (decide (0 ≤ IntKind.wrap IntKind.u8 (IntKind.wrap IntKind.i64 (48 + IntKind.wrap IntKind.i64 (Int.tdiv st 100)))) && decide (IntKind.wrap IntKind.u8 (IntKind.wrap IntKind.i64 (48 + IntKind.wrap IntKind.i64 (Int.tdiv st 100))) < 256) && (decide (0 ≤ IntKind.wrap IntKind.u8 (IntKind.wrap IntKind.i64 (48 + Int.tmod (IntKind.wrap IntKind.i64 (Int.tdiv st 10)) 10))) && decide (IntKind.wrap IntKind.u8 (IntKind.wrap IntKind.i64 (48 + Int.tmod (IntKind.wrap IntKind.i64 (Int.tdiv st 10)) 10)) < 256) && (decide (0 ≤ IntKind.wrap IntKind.u8 (IntKind.wrap IntKind.i64 (48 + Int.tmod st 10))) && decide (IntKind.wrap IntKind.u8 (IntKind.wrap IntKind.i64 (48 + Int.tmod st 10)) < 256) && true))) (∃ (n2 : Int), [AV.int IntKind.i64 n] = [AV.int IntKind.i64 n2] ∧ gAnd (decide (List.length (verM n2) + 1 ≤ 9223372036854775807)) (gAnd (decide (List.length (verM n2 ++ [32]) + 3 ≤ 9223372036854775807)) (gAnd (decide (List.length (verM n2 ++ [32] ++ [UInt8.ofNat (Int.toNat (IntKind.wrap IntKind.u8 (IntKind.wrap IntKind.i64 (48 + IntKind.wrap IntKind.i64 (Int.tdiv st 100))))), UInt8.ofNat (Int.toNat (IntKind.wrap IntKind.u8 (IntKind.wrap IntKind.i64 (48 + Int.tmod (IntKind.wrap IntKind.i64 (Int.tdiv st 10)) 10)))), UInt8.ofNat (Int.toNat (IntKind.wrap IntKind.u8 (IntKind.wrap IntKind.i64 (48 + Int.tmod st 10))))]) + 1 ≤ 9223372036854775807)) (gAnd (decide (List.length (verM n2 ++ [32] ++ [UInt8.ofNat (Int.toNat (IntKind.wrap IntKind.u8 (IntKind.wrap IntKind.i64 (48 + IntKind.wrap IntKind.i64 (Int.tdiv st 100))))), UInt8.ofNat (Int.toNat (IntKind.wrap IntKind.u8 (IntKind.wrap IntKind.i64 (48 + Int.tmod (IntKind.wrap IntKind.i64 (Int.tdiv st 10)) 10)))), UInt8.ofNat (Int.toNat (IntKind.wrap IntKind.u8 (IntKind.wrap IntKind.i64 (48 + Int.tmod st 10))))] ++ [32]) + List.length w ≤ 9223372036854775807)) (ifP (decide ((↑(List.length (verM n2 ++ [32] ++ [UInt8.ofNat (Int.toNat (IntKind.wrap IntKind.u8 (IntKind.wrap IntKind.i64 (48 + IntKind.wrap IntKind.i64 (Int.tdiv st 100))))), UInt8.ofNat (Int.toNat (IntKind.wrap IntKind.u8 (IntKind.wrap IntKind.i64 (48 + Int.tmod (IntKind.wrap IntKind.i64 (Int.tdiv st 10)) 10)))), UInt8.ofNat (Int.toNat (IntKind.wrap IntKind.u8 (IntKind.wrap IntKind.i64 (48 + Int.tmod st 10))))] ++ [32] ++ w)) : Int) > 2048)) (AV.tup [AV.str [], AV.int IntKind.i64 3] = v) (AV.tup [AV.str (verM n2 ++ [32] ++ [UInt8.ofNat (Int.toNat (IntKind.wrap IntKind.u8 (IntKind.wrap IntKind.i64 (48 + IntKind.wrap IntKind.i64 (Int.tdiv st 100))))), UInt8.ofNat (Int.toNat (IntKind.wrap IntKind.u8 (IntKind.wrap IntKind.i64 (48 + Int.tmod (IntKind.wrap IntKind.i64 (Int.tdiv st 10)) 10)))), UInt8.ofNat (Int.toNat (IntKind.wrap IntKind.u8 (IntKind.wrap IntKind.i64 (48 + Int.tmod st 10))))] ++ [32] ++ w), AV.int IntKind.i64 0] = v))))))))
              (gAnd (decide (0 ≤ IntKind.wrap IntKind.u8 (IntKind.wrap IntKind.i64 (48 + IntKind.wrap IntKind.i64 (Int.tdiv st 100)))) && decide (IntKind.wrap IntKind.u8 (IntKind.wrap IntKind.i64 (48 + IntKind.wrap IntKind.i64 (Int.tdiv st 100))) < 256) && (decide (0 ≤ IntKind.wrap IntKind.u8 (IntKind.wrap IntKind.i64 (48 + Int.tmod (IntKind.wrap IntKind.i64 (Int.tdiv st 10)) 10))) && decide (IntKind.wrap IntKind.u8 (IntKind.wrap IntKind.i64 (48 + Int.tmod (IntKind.wrap IntKind.i64 (Int.tdiv st 10)) 10)) < 256) && (decide (0 ≤ IntKind.wrap IntKind.u8 (IntKind.wrap IntKind.i64 (48 + Int.tmod st 10))) && decide (IntKind.wrap IntKind.u8 (IntKind.wrap IntKind.i64 (48 + Int.tmod st 10)) < 256) && true))) (∃ (n3 : Int), [AV.int IntKind.i64 n] = [AV.int IntKind.i64 n3] ∧ gAnd (decide (List.length (verM n3) + 1 ≤ 9223372036854775807)) (gAnd (decide (List.length (verM n3 ++ [32]) + 3 ≤ 9223372036854775807)) (gAnd (decide (List.length (verM n3 ++ [32] ++ [UInt8.ofNat (Int.toNat (IntKind.wrap IntKind.u8 (IntKind.wrap IntKind.i64 (48 + IntKind.wrap IntKind.i64 (Int.tdiv st 100))))), UInt8.ofNat (Int.toNat (IntKind.wrap IntKind.u8 (IntKind.wrap IntKind.i64 (48 + Int.tmod (IntKind.wrap IntKind.i64 (Int.tdiv st 10)) 10)))), UInt8.ofNat (Int.toNat (IntKind.wrap IntKind.u8 (IntKind.wrap IntKind.i64 (48 + Int.tmod st 10))))]) + 1 ≤ 9223372036854775807)) (gAnd (decide (List.length (verM n3 ++ [32] ++ [UInt8.ofNat (Int.toNat (IntKind.wrap IntKind.u8 (IntKind.wrap IntKind.i64 (48 + IntKind.wrap IntKind.i64 (Int.tdiv st 100))))), UInt8.ofNat (Int.toNat (IntKind.wrap IntKind.u8 (IntKind.wrap IntKind.i64 (48 + Int.tmod (IntKind.wrap IntKind.i64 (Int.tdiv st 10)) 10)))), UInt8.ofNat (Int.toNat (IntKind.wrap IntKind.u8 (IntKind.wrap IntKind.i64 (48 + Int.tmod st 10))))] ++ [32]) + List.length w ≤ 9223372036854775807)) (ifP (decide ((↑(List.length (verM n3 ++ [32] ++ [UInt8.ofNat (Int.toNat (IntKind.wrap IntKind.u8 (IntKind.wrap IntKind.i64 (48 + IntKind.wrap IntKind.i64 (Int.tdiv st 100))))), UInt8.ofNat (Int.toNat (IntKind.wrap IntKind.u8 (IntKind.wrap IntKind.i64 (48 + Int.tmod (IntKind.wrap IntKind.i64 (Int.tdiv st 10)) 10)))), UInt8.ofNat (Int.toNat (IntKind.wrap IntKind.u8 (IntKind.wrap IntKind.i64 (48 + Int.tmod st 10))))] ++ [32] ++ w)) : Int) > 2048)) (AV.tup [AV.str [], AV.int IntKind.i64 3] = v) (AV.tup [AV.str (verM n3 ++ [32] ++ [UInt8.ofNat (Int.toNat (IntKind.wrap IntKind.u8 (IntKind.wrap IntKind.i64 (48 + IntKind.wrap IntKind.i64 (Int.tdiv st 100))))), UInt8.ofNat (Int.toNat (IntKind.wrap IntKind.u8 (IntKind.wrap IntKind.i64 (48 + Int.tmod (IntKind.wrap IntKind.i64 (Int.tdiv st 10)) 10)))), UInt8.ofNat (Int.toNat (IntKind.wrap IntKind.u8 (IntKind.wrap IntKind.i64 (48 + Int.tmod st 10))))] ++ [32] ++ w), AV.int IntKind.i64 0] = v))))))))))) :
    ToEnd cfg 17 (bodyOf Tryd.f17) (RetIs Tryd.prog Tryd.f17 v) ([.code []]) .normal ([(0, true, .int .i64 st), (1, true, .str w), (2, true, .int .i64 n)]) ([]) := by
  have e : unr cfg 17 (bodyOf Tryd.f17) (ctab [(34, strC fun s => s.all reasonB), (37, versC)]) ⟨[], []⟩ (RetIs Tryd.prog Tryd.f17 v) 100000 ([.code []]) .normal ([(0, true, .int .i64 st), (1, true, .str w), (2, true, .int .i64 n)]) ([]) =
    (ifP (decide (st < 100)) (AV.tup [AV.str [], AV.int IntKind.i64 4] = v)
  (ifP (decide (st > 599)) (AV.tup [AV.str [], AV.int IntKind.i64 4] = v)
    (∃ (s1 : List UInt8),
      List.length s1 ≤ 100000 ∧
        [AV.str w] = [AV.str s1] ∧
          ifP (!List.all s1 reasonB) (AV.tup [AV.str [], AV.int IntKind.i64 4] = v)
            (ifP (n != 0) (ifP (n != 1) (AV.tup [AV.str [], AV.int IntKind.i64 4] = v) (gAnd (decide (0 ≤ IntKind.wrap IntKind.u8 (IntKind.wrap IntKind.i64 (48 + IntKind.wrap IntKind.i64 (Int.tdiv st 100)))) && decide (IntKind.wrap IntKind.u8 (IntKind.wrap IntKind.i64 (48 + IntKind.wrap IntKind.i64 (Int.tdiv st 100))) < 256) && (decide (0 ≤ IntKind.wrap IntKind.u8 (IntKind.wrap IntKind.i64 (48 + Int.tmod (IntKind.wrap IntKind.i64 (Int.tdiv st 10)) 10))) && decide (IntKind.wrap IntKind.u8 (IntKind.wrap IntKind.i64 (48 + Int.tmod (IntKind.wrap IntKind.i64 (Int.tdiv st 10)) 10)) < 256) && (decide (0 ≤ IntKind.wrap IntKind.u8 (IntKind.wrap IntKind.i64 (48 + Int.tmod st 10))) && decide (IntKind.wrap IntKind.u8 (IntKind.wrap IntKind.i64 (48 + Int.tmod st 10)) < 256) && true))) (∃ (n2 : Int), [AV.int IntKind.i64 n] = [AV.int IntKind.i64 n2] ∧ gAnd (decide (List.length (verM n2) + 1 ≤ 9223372036854775807)) (gAnd (decide (List.length (verM n2 ++ [32]) + 3 ≤ 9223372036854775807)) (gAnd (decide (List.length (verM n2 ++ [32] ++ [UInt8.ofNat (Int.toNat (IntKind.wrap IntKind.u8 (IntKind.wrap IntKind.i64 (48 + IntKind.wrap IntKind.i64 (Int.tdiv st 100))))), UInt8.ofNat (Int.toNat (IntKind.wrap IntKind.u8 (IntKind.wrap IntKind.i64 (48 + Int.tmod (IntKind.wrap IntKind.i64 (Int.tdiv st 10)) 10)))), UInt8.ofNat (Int.toNat (IntKind.wrap IntKind.u8 (IntKind.wrap IntKind.i64 (48 + Int.tmod st 10))))]) + 1 ≤ 9223372036854775807)) (gAnd (decide (List.length (verM n2 ++ [32] ++ [UInt8.ofNat (Int.toNat (IntKind.wrap IntKind.u8 (IntKind.wrap IntKind.i64 (48 + IntKind.wrap IntKind.i64 (Int.tdiv st 100))))), UInt8.ofNat (Int.toNat (IntKind.wrap IntKind.u8 (IntKind.wrap IntKind.i64 (48 + Int.tmod (IntKind.wrap IntKind.i64 (Int.tdiv st 10)) 10)))), UInt8.ofNat (Int.toNat (IntKind.wrap IntKind.u8 (IntKind.wrap IntKind.i64 (48 + Int.tmod st 10))))] ++ [32]) + List.length w ≤ 9223372036854775807)) (ifP (decide ((↑(List.length (verM n2 ++ [32] ++ [UInt8.ofNat (Int.toNat (IntKind.wrap IntKind.u8 (IntKind.wrap IntKind.i64 (48 + IntKind.wrap IntKind.i64 (Int.tdiv st 100))))), UInt8.ofNat (Int.toNat (IntKind.wrap IntKind.u8 (IntKind.wrap IntKind.i64 (48 + Int.tmod (IntKind.wrap IntKind.i64 (Int.tdiv st 10)) 10)))), UInt8.ofNat (Int.toNat (IntKind.wrap IntKind.u8 (IntKind.wrap IntKind.i64 (48 + Int.tmod st 10))))] ++ [32] ++ w)) : Int) > 2048)) (AV.tup [AV.str [], AV.int IntKind.i64 3] = v) (AV.tup [AV.str (verM n2 ++ [32] ++ [UInt8.ofNat (Int.toNat (IntKind.wrap IntKind.u8 (IntKind.wrap IntKind.i64 (48 + IntKind.wrap IntKind.i64 (Int.tdiv st 100))))), UInt8.ofNat (Int.toNat (IntKind.wrap IntKind.u8 (IntKind.wrap IntKind.i64 (48 + Int.tmod (IntKind.wrap IntKind.i64 (Int.tdiv st 10)) 10)))), UInt8.ofNat (Int.toNat (IntKind.wrap IntKind.u8 (IntKind.wrap IntKind.i64 (48 + Int.tmod st 10))))] ++ [32] ++ w), AV.int IntKind.i64 0] = v))))))))
              (gAnd (decide (0 ≤ IntKind.wrap IntKind.u8 (IntKind.wrap IntKind.i64 (48 + IntKind.wrap IntKind.i64 (Int.tdiv st 100)))) && decide (IntKind.wrap IntKind.u8 (IntKind.wrap IntKind.i64 (48 + IntKind.wrap IntKind.i64 (Int.tdiv st 100))) < 256) && (decide (0 ≤ IntKind.wrap IntKind.u8 (IntKind.wrap IntKind.i64 (48 + Int.tmod (IntKind.wrap IntKind.i64 (Int.tdiv st 10)) 10))) && decide (IntKind.wrap IntKind.u8 (IntKind.wrap IntKind.i64 (48 + Int.tmod (IntKind.wrap IntKind.i64 (Int.tdiv st 10)) 10)) < 256) && (decide (0 ≤ IntKind.wrap IntKind.u8 (IntKind.wrap IntKind.i64 (48 + Int.tmod st 10))) && decide (IntKind.wrap IntKind.u8 (IntKind.wrap IntKind.i64 (48 + Int.tmod st 10)) < 256) && true))) (∃ (n3 : Int), [AV.int IntKind.i64 n] = [AV.int IntKind.i64 n3] ∧ gAnd (decide (List.length (verM n3) + 1 ≤ 9223372036854775807)) (gAnd (decide (List.length (verM n3 ++ [32]) + 3 ≤ 9223372036854775807)) (gAnd (decide (List.length (verM n3 ++ [32] ++ [UInt8.ofNat (Int.toNat (IntKind.wrap IntKind.u8 (IntKind.wrap IntKind.i64 (48 + IntKind.wrap IntKind.i64 (Int.tdiv st 100))))), UInt8.ofNat (Int.toNat (IntKind.wrap IntKind.u8 (IntKind.wrap IntKind.i64 (48 + Int.tmod (IntKind.wrap IntKind.i64 (Int.tdiv st 10)) 10)))), UInt8.ofNat (Int.toNat (IntKind.wrap IntKind.u8 (IntKind.wrap IntKind.i64 (48 + Int.tmod st 10))))]) + 1 ≤ 9223372036854775807)) (gAnd (decide (List.length (verM n3 ++ [32] ++ [UInt8.ofNat (Int.toNat (IntKind.wrap IntKind.u8 (IntKind.wrap IntKind.i64 (48 + IntKind.wrap IntKind.i64 (Int.tdiv st 100))))), UInt8.ofNat (Int.toNat (IntKind.wrap IntKind.u8 (IntKind.wrap IntKind.i64 (48 + Int.tmod (IntKind.wrap IntKind.i64 (Int.tdiv st 10)) 10)))), UInt8.ofNat (Int.toNat (IntKind.wrap IntKind.u8 (IntKind.wrap IntKind.i64 (48 + Int.tmod st 10))))] ++ [32]) + List.length w ≤ 9223372036854775807)) (ifP (decide ((↑(List.length (verM n3 ++ [32] ++ [UInt8.ofNat (Int.toNat (IntKind.wrap IntKind.u8 (IntKind.wrap IntKind.i64 (48 + IntKind.wrap IntKind.i64 (Int.tdiv st 100))))), UInt8.ofNat (Int.toNat (IntKind.wrap IntKind.u8 (IntKind.wrap IntKind.i64 (48 + Int.tmod (IntKind.wrap IntKind.i64 (Int.tdiv st 10)) 10)))), UInt8.ofNat (Int.toNat (IntKind.wrap IntKind.u8 (IntKind.wrap IntKind.i64 (48 + Int.tmod st 10))))] ++ [32] ++ w)) : Int) > 2048)) (AV.tup [AV.str [], AV.int IntKind.i64 3] = v) (AV.tup [AV.str (verM n3 ++ [32] ++ [UInt8.ofNat (Int.toNat (IntKind.wrap IntKind.u8 (IntKind.wrap IntKind.i64 (48 + IntKind.wrap IntKind.i64 (Int.tdiv st 100))))), UInt8.ofNat (Int.toNat (IntKind.wrap IntKind.u8 (IntKind.wrap IntKind.i64 (48 + Int.tmod (IntKind.wrap IntKind.i64 (Int.tdiv st 10)) 10)))), UInt8.ofNat (Int.toNat (IntKind.wrap IntKind.u8 (IntKind.wrap IntKind.i64 (48 + Int.tmod st 10))))] ++ [32] ++ w), AV.int IntKind.i64 0] = v))))))))))) := by kernel_rfl
  exact unr_ok hT 100000 _ _ _ _ (e.mpr H)

theorem t11a {v : AV} {s : List UInt8} (hT : TabOk cfg (ctab [(27, strC isVer), (28, strC tokenB), (29, strC (fun s => s.all targetB && !s.isEmpty)), (30, minorC)])) (H :
    ifP (decide ((↑(List.length s) : Int) > 2048)) (AV.tup [AV.str [], AV.str [], AV.int IntKind.i64 0, AV.int IntKind.i64 3] = v) (ifP (decide (IntKind.wrap IntKind.i64 ((↑(List.length s) : Int) - 9) < 0)) (AV.tup [AV.str [], AV.str [], AV.int IntKind.i64 0, AV.int IntKind.i64 4] = v) (gAnd (inR (IntKind.wrap IntKind.i64 ((↑(List.length s) : Int) - 9)) (List.length s)) (ifP ((↑(UInt8.toNat (List.getD s (Int.toNat (IntKind.wrap IntKind.i64 ((↑(List.length s) : Int) - 9))) 0)) : Int) != 32) (AV.tup [AV.str [], AV.str [], AV.int IntKind.i64 0, AV.int IntKind.i64 4] = v) (gAnd (cutOb (List.length s) (some (IntKind.wrap IntKind.i64 (IntKind.wrap IntKind.i64 ((↑(List.length s) : Int) - 9) + 1))) none) (∃ (s1 : List UInt8), List.length s1 ≤ 100000 ∧ [AV.str (cutL s (some (IntKind.wrap IntKind.i64 (IntKind.wrap IntKind.i64 ((↑(List.length s) : Int) - 9) + 1))) none)] = [AV.str s1] ∧ ifP (!isVer s1) (AV.tup [AV.str [], AV.str [], AV.int IntKind.i64 0, AV.int IntKind.i64 4] = v) (ToEnd cfg 11 (bodyOf Tryd.f11) (RetIs Tryd.prog Tryd.f11 v) [Fm.code [0, 1, 0, 1, 1, 1, 1], Fm.block 0, Fm.code [1, 1, 1, 1, 1]] XT.normal [(0, true, AV.str s), (6, true, AV.int IntKind.i64 (IntKind.wrap IntKind.i64 ((↑(List.length s) : Int) - 9))), (7, true, AV.int IntKind.i64 0)] []))))))) :
    ToEnd cfg 11 (bodyOf Tryd.f11) (RetIs Tryd.prog Tryd.f11 v) ([.code []]) .normal ([(0, true, .str s)]) ([]) := by
  have e : unr cfg 11 (bodyOf Tryd.f11) (ctab [(27, strC isVer), (28, strC tokenB), (29, strC (fun s => s.all targetB && !s.isEmpty)), (30, minorC)]) ⟨[[0, 1, 0, 1, 1, 1, 1]], []⟩ (RetIs Tryd.prog Tryd.f11 v) 100000 ([.code []]) .normal ([(0, true, .str s)]) ([]) =
    (ifP (decide ((↑(List.length s) : Int) > 2048)) (AV.tup [AV.str [], AV.str [], AV.int IntKind.i64 0, AV.int IntKind.i64 3] = v) (ifP (decide (IntKind.wrap IntKind.i64 ((↑(List.length s) : Int) - 9) < 0)) (AV.tup [AV.str [], AV.str [], AV.int IntKind.i64 0, AV.int IntKind.i64 4] = v) (gAnd (inR (IntKind.wrap IntKind.i64 ((↑(List.length s) : Int) - 9)) (List.length s)) (ifP ((↑(UInt8.toNat (List.getD s (Int.toNat (IntKind.wrap IntKind.i64 ((↑(List.length s) : Int) - 9))) 0)) : Int) != 32) (AV.tup [AV.str [], AV.str [], AV.int IntKind.i64 0, AV.int IntKind.i64 4] = v) (gAnd (cutOb (List.length s) (some (IntKind.wrap IntKind.i64 (IntKind.wrap IntKind.i64 ((↑(List.length s) : Int) - 9) + 1))) none) (∃ (s1 : List UInt8), List.length s1 ≤ 100000 ∧ [AV.str (cutL s (some (IntKind.wrap IntKind.i64 (IntKind.wrap IntKind.i64 ((↑(List.length s) : Int) - 9) + 1))) none)] = [AV.str s1] ∧ ifP (!isVer s1) (AV.tup [AV.str [], AV.str [], AV.int IntKind.i64 0, AV.int IntKind.i64 4] = v) (ToEnd cfg 11 (bodyOf Tryd.f11) (RetIs Tryd.prog Tryd.f11 v) [Fm.code [0, 1, 0, 1, 1, 1, 1], Fm.block 0, Fm.code [1, 1, 1, 1, 1]] XT.normal [(0, true, AV.str s), (6, true, AV.int IntKind.i64 (IntKind.wrap IntKind.i64 ((↑(List.length s) : Int) - 9))), (7, true, AV.int IntKind.i64 0)] []))))))) := by kernel_rfl
  exact unr_ok hT 100000 _ _ _ _ (e.mpr H)

theorem t13 {v : AV} {s : List UInt8} (hT : TabOk cfg (ctab [(27, strC isVer), (30, minorC), (33, byteC isDg), (34, strC fun s => s.all reasonB)])) (H :
    ifP (decide ((↑(List.length s) : Int) > 2048)) (AV.tup [AV.int IntKind.i64 0, AV.str [], AV.int IntKind.i64 0, AV.int IntKind.i64 3] = v) (ifP (decide ((↑(List.length s) : Int) < 13)) (AV.tup [AV.int IntKind.i64 0, AV.str [], AV.int IntKind.i64 0, AV.int IntKind.i64 4] = v) (gAnd (cutOb (List.length s) none (some 8)) (∃ (s1 : List UInt8), List.length s1 ≤ 100000 ∧ [AV.str (cutL s none (some 8))] = [AV.str s1] ∧ ifP (!isVer s1) (AV.tup [AV.int IntKind.i64 0, AV.str [], AV.int IntKind.i64 0, AV.int IntKind.i64 4] = v) (gAnd (inR 8 (List.length s)) (ifP ((↑(UInt8.toNat (List.getD s 8 0)) : Int) != 32) (AV.tup [AV.int IntKind.i64 0, AV.str [], AV.int IntKind.i64 0, AV.int IntKind.i64 4] = v) (gAnd (inR 9 (List.length s)) (ifP (decide ((↑(UInt8.toNat (List.getD s 9 0)) : Int) < 49)) (AV.tup [AV.int IntKind.i64 0, AV.str [], AV.int IntKind.i64 0, AV.int IntKind.i64 4] = v) (gAnd (inR 9 (List.length s)) (ifP (decide ((↑(UInt8.toNat (List.getD s 9 0)) : Int) > 53)) (AV.tup [AV.int IntKind.i64 0, AV.str [], AV.int IntKind.i64 0, AV.int IntKind.i64 4] = v) (gAnd (inR 10 (List.length s)) (∃ (c2 : UInt8), [AV.int IntKind.u8 (↑(UInt8.toNat (List.getD s 10 0)) : Int)] = [AV.int IntKind.u8 (↑(UInt8.toNat c2) : Int)] ∧ ifP (!isDg c2) (AV.tup [AV.int IntKind.i64 0, AV.str [], AV.int IntKind.i64 0, AV.int IntKind.i64 4] = v) (gAnd (inR 11 (List.length s)) (∃ (c3 : UInt8), [AV.int IntKind.u8 (↑(UInt8.toNat (List.getD s 11 0)) : Int)] = [AV.int IntKind.u8 (↑(UInt8.toNat c3) : Int)] ∧ ifP (!isDg c3) (AV.tup [AV.int IntKind.i64 0, AV.str [], AV.int IntKind.i64 0, AV.int IntKind.i64 4] = v) (gAnd (inR 12 (List.length s)) (ifP ((↑(UInt8.toNat (List.getD s 12 0)) : Int) != 32) (AV.tup [AV.int IntKind.i64 0, AV.str [], AV.int IntKind.i64 0, AV.int IntKind.i64 4] = v) (gAnd (cutOb (List.length s) (some 13) none) (∃ (s4 : List UInt8), List.length s4 ≤ 100000 ∧ [AV.str (cutL s (some 13) none)] = [AV.str s4] ∧ ifP (!List.all s4 reasonB) (AV.tup [AV.int IntKind.i64 0, AV.str [], AV.int IntKind.i64 0, AV.int IntKind.i64 4] = v) (gAnd (inR 5 (List.length s)) (ifP ((↑(UInt8.toNat (List.getD s 5 0)) : Int) != 49) (AV.tup [AV.int IntKind.i64 0, AV.str [], AV.int IntKind.i64 0, AV.int IntKind.i64 9] = v) (gAnd (inR 9 (List.length s)) (gAnd (inR 10 (List.length s)) (gAnd (inR 11 (List.length s)) (gAnd (cutOb (List.length s) (some 13) none) (gAnd (cutOb (List.length s) none (some 8)) (∃ (s5 : List UInt8), 8 ≤ List.length s5 ∧ [AV.str (cutL s none (some 8))] = [AV.str s5] ∧ AV.tup [AV.int IntKind.i64 (IntKind.wrap IntKind.i64 (IntKind.wrap IntKind.i64 (IntKind.wrap IntKind.i64 (100 * IntKind.wrap IntKind.i64 (IntKind.wrap IntKind.u8 ((↑(UInt8.toNat (List.getD s 9 0)) : Int) - 48))) + IntKind.wrap IntKind.i64 (10 * IntKind.wrap IntKind.i64 (IntKind.wrap IntKind.u8 ((↑(UInt8.toNat (List.getD s 10 0)) : Int) - 48)))) + IntKind.wrap IntKind.i64 (IntKind.wrap IntKind.u8 ((↑(UInt8.toNat (List.getD s 11 0)) : Int) - 48)))), AV.str (cutL s (some 13) none), AV.int IntKind.i64 (if List.getD s5 7 0 = 48 then 0 else 1), AV.int IntKind.i64 0] = v)))))))))))))))))))))))))) :
    ToEnd cfg 13 (bodyOf Tryd.f13) (RetIs Tryd.prog Tryd.f13 v) ([.code []]) .normal ([(0, true, .str s)]) ([]) := by
  have e : unr cfg 13 (bodyOf Tryd.f13) (ctab [(27, strC isVer), (30, minorC), (33, byteC isDg), (34, strC fun s => s.all reasonB)]) ⟨[], []⟩ (RetIs Tryd.prog Tryd.f13 v) 100000 ([.code []]) .normal ([(0, true, .str s)]) ([]) =
    (ifP (decide ((↑(List.length s) : Int) > 2048)) (AV.tup [AV.int IntKind.i64 0, AV.str [], AV.int IntKind.i64 0, AV.int IntKind.i64 3] = v) (ifP (decide ((↑(List.length s) : Int) < 13)) (AV.tup [AV.int IntKind.i64 0, AV.str [], AV.int IntKind.i64 0, AV.int IntKind.i64 4] = v) (gAnd (cutOb (List.length s) none (some 8)) (∃ (s1 : List UInt8), List.length s1 ≤ 100000 ∧ [AV.str (cutL s none (some 8))] = [AV.str s1] ∧ ifP (!isVer s1) (AV.tup [AV.int IntKind.i64 0, AV.str [], AV.int IntKind.i64 0, AV.int IntKind.i64 4] = v) (gAnd (inR 8 (List.length s)) (ifP ((↑(UInt8.toNat (List.getD s 8 0)) : Int) != 32) (AV.tup [AV.int IntKind.i64 0, AV.str [], AV.int IntKind.i64 0, AV.int IntKind.i64 4] = v) (gAnd (inR 9 (List.length s)) (ifP (decide ((↑(UInt8.toNat (List.getD s 9 0)) : Int) < 49)) (AV.tup [AV.int IntKind.i64 0, AV.str [], AV.int IntKind.i64 0, AV.int IntKind.i64 4] = v) (gAnd (inR 9 (List.length s)) (ifP (decide ((↑(UInt8.toNat (List.getD s 9 0)) : Int) > 53)) (AV.tup [AV.int IntKind.i64 0, AV.str [], AV.int IntKind.i64 0, AV.int IntKind.i64 4] = v) (gAnd (inR 10 (List.length s)) (∃ (c2 : UInt8), [AV.int IntKind.u8 (↑(UInt8.toNat (List.getD s 10 0)) : Int)] = [AV.int IntKind.u8 (↑(UInt8.toNat c2) : Int)] ∧ ifP (!isDg c2) (AV.tup [AV.int IntKind.i64 0, AV.str [], AV.int IntKind.i64 0, AV.int IntKind.i64 4] = v) (gAnd (inR 11 (List.length s)) (∃ (c3 : UInt8), [AV.int IntKind.u8 (↑(UInt8.toNat (List.getD s 11 0)) : Int)] = [AV.int IntKind.u8 (↑(UInt8.toNat c3) : Int)] ∧ ifP (!isDg c3) (AV.tup [AV.int IntKind.i64 0, AV.str [], AV.int IntKind.i64 0, AV.int IntKind.i64 4] = v) (gAnd (inR 12 (List.length s)) (ifP ((↑(UInt8.toNat (List.getD s 12 0)) : Int) != 32) (AV.tup [AV.int IntKind.i64 0, AV.str [], AV.int IntKind.i64 0, AV.int IntKind.i64 4] = v) (gAnd (cutOb (List.length s) (some 13) none) (∃ (s4 : List UInt8), List.length s4 ≤ 100000 ∧ [AV.str (cutL s (some 13) none)] = [AV.str s4] ∧ ifP (!List.all s4 reasonB) (AV.tup [AV.int IntKind.i64 0, AV.str [], AV.int IntKind.i64 0, AV.int IntKind.i64 4] = v) (gAnd (inR 5 (List.length s)) (ifP ((↑(UInt8.toNat (List.getD s 5 0)) : Int) != 49) (AV.tup [AV.int IntKind.i64 0, AV.str [], AV.int IntKind.i64 0, AV.int IntKind.i64 9] = v) (gAnd (inR 9 (List.length s)) (gAnd (inR 10 (List.length s)) (gAnd (inR 11 (List.length s)) (gAnd (cutOb (List.length s) (some 13) none) (gAnd (cutOb (List.length s) none (some 8)) (∃ (s5 : List UInt8), 8 ≤ List.length s5 ∧ [AV.str (cutL s none (some 8))] = [AV.str s5] ∧ AV.tup [AV.int IntKind.i64 (IntKind.wrap IntKind.i64 (IntKind.wrap IntKind.i64 (IntKind.wrap IntKind.i64 (100 * IntKind.wrap IntKind.i64 (IntKind.wrap IntKind.u8 ((↑(UInt8.toNat (List.getD s 9 0)) : Int) - 48))) + IntKind.wrap IntKind.i64 (10 * IntKind.wrap IntKind.i64 (IntKind.wrap IntKind.u8 ((↑(UInt8.toNat (List.getD s 10 0)) : Int) - 48)))) + IntKind.wrap IntKind.i64 (IntKind.wrap IntKind.u8 ((↑(UInt8.toNat (List.getD s 11 0)) : Int) - 48)))), AV.str (cutL s (some 13) none), AV.int IntKind.i64 (if List.getD s5 7 0 = 48 then 0 else 1), AV.int IntKind.i64 0] = v)))))))))))))))))))))))))) := by kernel_rfl
  exact unr_ok hT 100000 _ _ _ _ (e.mpr H)

theorem t11b {v : AV} {s : List UInt8} {s0 : List UInt8} {i6 : Int} {i7 : Int} (hT : TabOk cfg (ctab [(27, strC isVer), (28, strC tokenB), (29, strC (fun s => s.all targetB && !s.isEmpty)), (30, minorC)])) (H :
    ifP (decide (i7 < i6)) (gAnd (inR i7 (List.length s0)) (ifP ((↑(UInt8.toNat (List.getD s0 (Int.toNat i7) 0)) : Int) != 32) (ToEnd cfg 11 (bodyOf Tryd.f11) (RetIs Tryd.prog Tryd.f11 v) [Fm.code [0, 1, 0, 1, 1, 1, 1], Fm.block 0, Fm.code [1, 1, 1, 1, 1]] XT.normal [(0, true, AV.str s0), (6, true, AV.int IntKind.i64 i6), (7, true, AV.int IntKind.i64 (IntKind.wrap IntKind.i64 (i7 + 1)))] []) (gAnd (cutOb (List.length s0) none (some i7)) (∃ (s1 : List UInt8), List.length s1 ≤ 100000 ∧ [AV.str (cutL s0 none (some i7))] = [AV.str s1] ∧ ifP (!tokenB s1) (ToEnd cfg 11 (bodyOf Tryd.f11) (RetIs Tryd.prog Tryd.f11 v) [Fm.code [0, 1, 0, 1, 1, 1, 1], Fm.block 0, Fm.code [1, 1, 1, 1, 1]] XT.normal [(0, true, AV.str s0), (6, true, AV.int IntKind.i64 i6), (7, true, AV.int IntKind.i64 (IntKind.wrap IntKind.i64 (i7 + 1)))] []) (gAnd (cutOb (List.length s0) (some (IntKind.wrap IntKind.i64 (i7 + 1))) (some i6)) (∃ (s2 : List UInt8), List.length s2 ≤ 100000 ∧ [AV.str (cutL s0 (some (IntKind.wrap IntKind.i64 (i7 + 1))) (some i6))] = [AV.str s2] ∧ ifP (!(List.all s2 targetB && !List.isEmpty s2)) (ToEnd cfg 11 (bodyOf Tryd.f11) (RetIs Tryd.prog Tryd.f11 v) [Fm.code [0, 1, 0, 1, 1, 1, 1], Fm.block 0, Fm.code [1, 1, 1, 1, 1]] XT.normal [(0, true, AV.str s0), (6, true, AV.int IntKind.i64 i6), (7, true, AV.int IntKind.i64 (IntKind.wrap IntKind.i64 (i7 + 1)))] []) (gAnd (inR (IntKind.wrap IntKind.i64 (i6 + 6)) (List.length s0)) (ifP ((↑(UInt8.toNat (List.getD s0 (Int.toNat (IntKind.wrap IntKind.i64 (i6 + 6))) 0)) : Int) != 49) (AV.tup [AV.str [], AV.str [], AV.int IntKind.i64 0, AV.int IntKind.i64 9] = v) (ifP (decide (IntKind.wrap IntKind.i64 (IntKind.wrap IntKind.i64 (i6 - i7) - 1) > 1024)) (AV.tup [AV.str [], AV.str [], AV.int IntKind.i64 0, AV.int IntKind.i64 3] = v) (gAnd (cutOb (List.length s0) none (some i7)) (gAnd (cutOb (List.length s0) (some (IntKind.wrap IntKind.i64 (i7 + 1))) (some i6)) (gAnd (cutOb (List.length s0) (some (IntKind.wrap IntKind.i64 (i6 + 1))) none) (∃ (s3 : List UInt8), 8 ≤ List.length s3 ∧ [AV.str (cutL s0 (some (IntKind.wrap IntKind.i64 (i6 + 1))) none)] = [AV.str s3] ∧ AV.tup [AV.str (cutL s0 none (some i7)), AV.str (cutL s0 (some (IntKind.wrap IntKind.i64 (i7 + 1))) (some i6)), AV.int IntKind.i64 (if List.getD s3 7 0 = 48 then 0 else 1), AV.int IntKind.i64 0] = v))))))))))))) (AV.tup [AV.str [], AV.str [], AV.int IntKind.i64 0, AV.int IntKind.i64 4] = v)) :
    ToEnd cfg 11 (bodyOf Tryd.f11) (RetIs Tryd.prog Tryd.f11 v) ([.code [0, 1, 0, 1, 1, 1, 1], Fm.block 0, Fm.code [1, 1, 1, 1, 1]]) .normal ([(0, true, AV.str s0), (6, true, AV.int IntKind.i64 i6), (7, true, AV.int IntKind.i64 i7)]) ([]) := by
  have e : unr cfg 11 (bodyOf Tryd.f11) (ctab [(27, strC isVer), (28, strC tokenB), (29, strC (fun s => s.all targetB && !s.isEmpty)), (30, minorC)]) ⟨[[0, 1, 0, 1, 1, 1, 1]], []⟩ (RetIs Tryd.prog Tryd.f11 v) 100000 ([.code [0, 0, 1, 0, 1, 1, 1, 1], .loop [0, 1, 0, 1, 1, 1, 1] 0, Fm.block 0, Fm.code [1, 1, 1, 1, 1]]) .normal ([(0, true, AV.str s0), (6, true, AV.int IntKind.i64 i6), (7, true, AV.int IntKind.i64 i7)]) ([]) =
    (ifP (decide (i7 < i6)) (gAnd (inR i7 (List.length s0)) (ifP ((↑(UInt8.toNat (List.getD s0 (Int.toNat i7) 0)) : Int) != 32) (ToEnd cfg 11 (bodyOf Tryd.f11) (RetIs Tryd.prog Tryd.f11 v) [Fm.code [0, 1, 0, 1, 1, 1, 1], Fm.block 0, Fm.code [1, 1, 1, 1, 1]] XT.normal [(0, true, AV.str s0), (6, true, AV.int IntKind.i64 i6), (7, true, AV.int IntKind.i64 (IntKind.wrap IntKind.i64 (i7 + 1)))] []) (gAnd (cutOb (List.length s0) none (some i7)) (∃ (s1 : List UInt8), List.length s1 ≤ 100000 ∧ [AV.str (cutL s0 none (some i7))] = [AV.str s1] ∧ ifP (!tokenB s1) (ToEnd cfg 11 (bodyOf Tryd.f11) (RetIs Tryd.prog Tryd.f11 v) [Fm.code [0, 1, 0, 1, 1, 1, 1], Fm.block 0, Fm.code [1, 1, 1, 1, 1]] XT.normal [(0, true, AV.str s0), (6, true, AV.int IntKind.i64 i6), (7, true, AV.int IntKind.i64 (IntKind.wrap IntKind.i64 (i7 + 1)))] []) (gAnd (cutOb (List.length s0) (some (IntKind.wrap IntKind.i64 (i7 + 1))) (some i6)) (∃ (s2 : List UInt8), List.length s2 ≤ 100000 ∧ [AV.str (cutL s0 (some (IntKind.wrap IntKind.i64 (i7 + 1))) (some i6))] = [AV.str s2] ∧ ifP (!(List.all s2 targetB && !List.isEmpty s2)) (ToEnd cfg 11 (bodyOf Tryd.f11) (RetIs Tryd.prog Tryd.f11 v) [Fm.code [0, 1, 0, 1, 1, 1, 1], Fm.block 0, Fm.code [1, 1, 1, 1, 1]] XT.normal [(0, true, AV.str s0), (6, true, AV.int IntKind.i64 i6), (7, true, AV.int IntKind.i64 (IntKind.wrap IntKind.i64 (i7 + 1)))] []) (gAnd (inR (IntKind.wrap IntKind.i64 (i6 + 6)) (List.length s0)) (ifP ((↑(UInt8.toNat (List.getD s0 (Int.toNat (IntKind.wrap IntKind.i64 (i6 + 6))) 0)) : Int) != 49) (AV.tup [AV.str [], AV.str [], AV.int IntKind.i64 0, AV.int IntKind.i64 9] = v) (ifP (decide (IntKind.wrap IntKind.i64 (IntKind.wrap IntKind.i64 (i6 - i7) - 1) > 1024)) (AV.tup [AV.str [], AV.str [], AV.int IntKind.i64 0, AV.int IntKind.i64 3] = v) (gAnd (cutOb (List.length s0) none (some i7)) (gAnd (cutOb (List.length s0) (some (IntKind.wrap IntKind.i64 (i7 + 1))) (some i6)) (gAnd (cutOb (List.length s0) (some (IntKind.wrap IntKind.i64 (i6 + 1))) none) (∃ (s3 : List UInt8), 8 ≤ List.length s3 ∧ [AV.str (cutL s0 (some (IntKind.wrap IntKind.i64 (i6 + 1))) none)] = [AV.str s3] ∧ AV.tup [AV.str (cutL s0 none (some i7)), AV.str (cutL s0 (some (IntKind.wrap IntKind.i64 (i7 + 1))) (some i6)), AV.int IntKind.i64 (if List.getD s3 7 0 = 48 then 0 else 1), AV.int IntKind.i64 0] = v))))))))))))) (AV.tup [AV.str [], AV.str [], AV.int IntKind.i64 0, AV.int IntKind.i64 4] = v)) := by kernel_rfl
  exact ends_round hT 100000 (by kernel_rfl) (e.mpr H)

end Go.Proofs.YtahojaolkehojaaDoor
end

section
namespace Go.Proofs.YtahojaolkehojaaDoor
open Go.Ai Go
set_option linter.unusedSimpArgs false
set_option linter.unusedVariables false
set_option linter.unnecessarySimpa false
set_option maxRecDepth 100000

theorem pf14 : pureFn cfg 14 Tryd.f14 := ⟨by kernel_rfl, by kernel_rfl, by kernel_rfl, by kernel_rfl, by kernel_rfl, by kernel_rfl⟩
theorem pf15 : pureFn cfg 15 Tryd.f15 := ⟨by kernel_rfl, by kernel_rfl, by kernel_rfl, by kernel_rfl, by kernel_rfl, by kernel_rfl⟩
theorem pf16 : pureFn cfg 16 Tryd.f16 := ⟨by kernel_rfl, by kernel_rfl, by kernel_rfl, by kernel_rfl, by kernel_rfl, by kernel_rfl⟩
theorem pf17 : pureFn cfg 17 Tryd.f17 := ⟨by kernel_rfl, by kernel_rfl, by kernel_rfl, by kernel_rfl, by kernel_rfl, by kernel_rfl⟩
theorem pf11 : pureFn cfg 11 Tryd.f11 := ⟨by kernel_rfl, by kernel_rfl, by kernel_rfl, by kernel_rfl, by kernel_rfl, by kernel_rfl⟩
theorem pf13 : pureFn cfg 13 Tryd.f13 := ⟨by kernel_rfl, by kernel_rfl, by kernel_rfl, by kernel_rfl, by kernel_rfl, by kernel_rfl⟩

theorem okL {x : Nat} (h : x ≤ 9223372036854775807) : decide (x ≤ 9223372036854775807) = true := decide_eq_true h

/-- How the program puts a request's line. -/
def reqT (a b : List UInt8) (n : Int) : List UInt8 := a ++ [32] ++ b ++ [32, 72, 84, 84, 80, 47, 49, 46] ++ itoaS n
theorem reqT_eq {a b : List UInt8} {n : Int} (h0 : 0 ≤ n) (h1 : n ≤ 1) : reqT a b n = reqS a b n := by
  unfold reqT reqS
  rw [itoa_mi h0 h1]
  simp [verS]
theorem reqT_len (a b : List UInt8) (n : Int) : (reqT a b n).length ≤ a.length + b.length + 40 := by
  have := itoaS_len n
  unfold reqT
  simp; omega
theorem put_done {a b : List UInt8} {n : Int} {bad : Bool} (hb : bad = badReq a b) :
    ifP ((doneB n bad (reqT a b n)).2 == 0) (ifP (decide ((b.length : Int) > 1024)) (AV.tup [AV.str [], AV.int .i64 3] = AV.tup [AV.str (putReq a b n).1, AV.int .i64 (putReq a b n).2]) (AV.tup [AV.str (doneB n bad (reqT a b n)).1, AV.int .i64 (doneB n bad (reqT a b n)).2] = AV.tup [AV.str (putReq a b n).1, AV.int .i64 (putReq a b n).2]))
      (AV.tup [AV.str (doneB n bad (reqT a b n)).1, AV.int .i64 (doneB n bad (reqT a b n)).2] = AV.tup [AV.str (putReq a b n).1, AV.int .i64 (putReq a b n).2]) := by
  subst hb
  unfold doneB putReq
  by_cases h : (badReq a b || decide (n < 0) || decide (1 < n)) = true
  · rw [if_pos h, if_pos h]
    exact ifP_intro (fun k => by cases k) fun _ => rfl
  · rw [if_neg h, if_neg h]
    obtain ⟨b1, b2, b3⟩ := no_bad (Bool.eq_false_iff.2 h)
    simp only [decide_eq_false_iff_not] at b2 b3
    rw [reqT_eq (by omega) (by omega)]
    by_cases hl : 2048 < (reqS a b n).length
    · rw [if_pos hl, if_pos (.inr hl)]
      exact ifP_intro (fun k => by cases k) fun _ => rfl
    · rw [if_neg hl]
      refine ifP_intro (fun _ => ifP_intro (fun k => ?_) fun k => ?_) fun k => by cases k
      · simp only [decide_eq_true_eq] at k
        rw [if_pos (.inl (by omega))]
      · simp only [decide_eq_false_iff_not] at k
        rw [if_neg (by omega)]
theorem c14 : COk cfg 14 putReqC := by
  have hT := ctab_ok (ctab_cons c24 (ctab_cons c25 (ctab_cons c35 (ctab_cons c36 ctab_nil))))
  refine cok_pure pf14 fun vs h K ht => ?_
  obtain ⟨a, b, n, ha, hb, ⟨hn0, hn1⟩, rfl, hk⟩ := ht
  have hi := itoaS_len n
  have hlen := reqT_len a b n
  refine ⟨_, hk, t14 hT ⟨a, by omega, rfl, ifP_intro (fun k => ?_) fun k => ifP_intro (fun m => ?_) fun m => ⟨[33, 126], b, by decide, by decide, by omega, rfl, ?_⟩⟩⟩
  all_goals
    refine gAnd_intro (okL (by omega)) (gAnd_intro (okL (by simp; omega)) (gAnd_intro (okL (by simp; omega)) ⟨n, hn0, hn1, rfl, gAnd_intro (okL (by simp; omega)) ⟨n, _, reqT a b n, by omega, rfl, put_done ?_⟩⟩))
  · have : tokenB a = false := by simpa using k
    simp [badReq, this]
  · have : b = [] := by simpa using m
    simp [badReq, this]
  · have h1 : tokenB a = true := by simpa using k
    have h2 : b.isEmpty = false := by rw [emp_eq]; exact m
    rw [all_target]
    simp [badReq, h1, h2]

theorem c15 : COk cfg 15 putReqC := by
  have hT := ctab_ok (ctab_cons c28 (ctab_cons c29 (ctab_cons c37 ctab_nil)))
  refine cok_pure pf15 fun vs h K ht => ?_
  obtain ⟨a, b, n, ha, hb, ⟨hn0, hn1⟩, rfl, hk⟩ := ht
  have bad : badReq a b = true → AV.tup [AV.str [], AV.int .i64 4] = AV.tup [AV.str (putReq a b n).1, AV.int .i64 (putReq a b n).2] := fun hb => by
    unfold putReq
    rw [hb, if_pos (by simp)]
  have fin : badReq a b = false → n = 0 ∨ n = 1 → ifP (decide ((b.length : Int) > 1024)) (AV.tup [AV.str [], AV.int .i64 3] = AV.tup [AV.str (putReq a b n).1, AV.int .i64 (putReq a b n).2])
      (ifP (decide (((a ++ [32] ++ b ++ [32] ++ verM n).length : Int) > 2048)) (AV.tup [AV.str [], AV.int .i64 3] = AV.tup [AV.str (putReq a b n).1, AV.int .i64 (putReq a b n).2])
        (AV.tup [AV.str (a ++ [32] ++ b ++ [32] ++ verM n), AV.int .i64 0] = AV.tup [AV.str (putReq a b n).1, AV.int .i64 (putReq a b n).2])) := fun hb hn => by
    have e : (a ++ [32] ++ b ++ [32] ++ verM n) = reqS a b n := by
      unfold reqS verM
      rcases hn with rfl | rfl <;> simp [verS] <;> rfl
    rw [e]
    unfold putReq
    rw [hb, decide_eq_false (p := n < 0) (by omega), decide_eq_false (p := 1 < n) (by omega), if_neg (by simp)]
    refine ifP_intro (fun k => ?_) fun k => ifP_intro (fun m => ?_) fun m => ?_
    · simp only [decide_eq_true_eq] at k
      rw [if_pos (.inl (by omega))]
    · simp only [decide_eq_true_eq] at m
      rw [if_pos (.inr (by omega))]
    · simp only [decide_eq_false_iff_not] at k m
      rw [if_neg (by omega)]
  have hver : (verM n).length = 8 := by unfold verM; split <;> rfl
  refine ⟨_, hk, t15 hT ⟨a, by omega, rfl, ifP_intro (fun k => bad ?_) fun k => ⟨b, by omega, rfl, ifP_intro (fun m => bad ?_) fun m => ifP_intro (fun p => ifP_intro (fun q => ?_) fun q => ?_) fun p => ?_⟩⟩⟩
  · have : tokenB a = false := by simpa using k
    simp [badReq, this]
  · have : (b.all targetB && !b.isEmpty) = false := Eq.mp (Bool.not_eq_true' _) m
    unfold badReq
    cases h1 : b.all targetB <;> cases h2 : b.isEmpty <;> simp_all
  · unfold putReq
    have h1 : ¬n = 0 := by simpa using p
    have h2 : ¬n = 1 := by simpa using q
    rw [if_pos]
    simp only [Bool.or_eq_true, decide_eq_true_eq]
    omega
  all_goals
    have hbad : badReq a b = false := by
      have h1 : tokenB a = true := by simpa using k
      have h2 : (b.all targetB && !b.isEmpty) = true := Eq.mp (Bool.not_eq_false' _) m
      simp only [Bool.and_eq_true, Bool.not_eq_true'] at h2
      simp [badReq, h1, h2.1, h2.2]
    refine gAnd_intro (okL (by omega)) (gAnd_intro (okL (by simp; omega)) (gAnd_intro (okL (by simp; omega)) ⟨n, rfl, gAnd_intro (okL (by rw [hver]; simp; omega)) (fin hbad ?_)⟩))
  · exact .inr (by simpa using q)
  · exact .inl (by simpa using p)

/-- How the program puts a reply's line. -/
def stT (st : Int) (w : List UInt8) (n : Int) : List UInt8 := [72, 84, 84, 80, 47, 49, 46] ++ itoaS n ++ [32] ++ itoaS st ++ [32] ++ w
theorem stT_eq {st : Int} {w : List UInt8} {n : Int} (h0 : 0 ≤ n) (h1 : n ≤ 1) (h2 : 100 ≤ st) (h3 : st ≤ 599) : stT st w n = stS st w n := by
  unfold stT stS
  rw [itoa_mi h0 h1, itoa_st h2 h3]
  simp [verS]
theorem stT_len (st : Int) (w : List UInt8) (n : Int) : (stT st w n).length ≤ w.length + 60 := by
  have := itoaS_len n
  have := itoaS_len st
  unfold stT
  simp; omega
theorem putst_done {st : Int} {w : List UInt8} {n : Int} {bad : Bool} (hb : bad = badSt st w) :
    AV.tup [AV.str (doneB n bad (stT st w n)).1, AV.int .i64 (doneB n bad (stT st w n)).2] = AV.tup [AV.str (putSt st w n).1, AV.int .i64 (putSt st w n).2] := by
  subst hb
  have : doneB n (badSt st w) (stT st w n) = putSt st w n := by
    unfold doneB putSt
    by_cases h : (badSt st w || decide (n < 0) || decide (1 < n)) = true
    · rw [if_pos h, if_pos h]
    · rw [if_neg h, if_neg h]
      obtain ⟨b1, b2, b3⟩ := no_bad (Bool.eq_false_iff.2 h)
      simp only [decide_eq_false_iff_not] at b2 b3
      simp only [badSt, Bool.or_eq_false_iff, decide_eq_false_iff_not] at b1
      rw [stT_eq (by omega) (by omega) (by omega) (by omega)]
  rw [this]
theorem c16 : COk cfg 16 putStC := by
  have hT := ctab_ok (ctab_cons c24 (ctab_cons c35 (ctab_cons c36 ctab_nil)))
  refine cok_pure pf16 fun vs h K ht => ?_
  obtain ⟨st, w, n, hw, ⟨hs0, hs1⟩, ⟨hn0, hn1⟩, rfl, hk⟩ := ht
  have hi := itoaS_len n
  have hi2 := itoaS_len st
  have hlen := stT_len st w n
  refine ⟨_, hk, t16 hT (ifP_intro (fun k => ?_) fun k => ifP_intro (fun m => ?_) fun m => ⟨[9, 9, 32, 126, 128, 255], w, by decide, by decide, by omega, rfl, ?_⟩)⟩
  all_goals
    refine ⟨n, hn0, hn1, rfl, gAnd_intro (okL (by omega)) (gAnd_intro (okL (x := ([72, 84, 84, 80, 47, 49, 46] ++ itoaS n).length + 1) (by simp; omega)) ⟨st, hs0, hs1, rfl, gAnd_intro (okL (x := ([72, 84, 84, 80, 47, 49, 46] ++ itoaS n ++ [32]).length + (itoaS st).length) (by simp; omega))
      (gAnd_intro (okL (x := ([72, 84, 84, 80, 47, 49, 46] ++ itoaS n ++ [32] ++ itoaS st).length + 1) (by simp; omega)) (gAnd_intro (okL (x := ([72, 84, 84, 80, 47, 49, 46] ++ itoaS n ++ [32] ++ itoaS st ++ [32]).length + w.length) (by simp; omega)) ⟨n, _, stT st w n, by omega, rfl, putst_done ?_⟩))⟩)⟩
  · simp only [decide_eq_true_eq] at k
    unfold badSt
    rw [decide_eq_true k]; rfl
  · simp only [decide_eq_true_eq] at m
    unfold badSt
    rw [decide_eq_true (p := 599 < st) (by omega)]; simp
  · simp only [decide_eq_false_iff_not] at k m
    unfold badSt
    rw [all_reason, decide_eq_false k, decide_eq_false (p := 599 < st) (by omega)]; rfl
end Go.Proofs.YtahojaolkehojaaDoor
end

section
namespace Go.Proofs.YtahojaolkehojaaDoor
open Go.Ai Go
set_option linter.unusedSimpArgs false
set_option linter.unusedVariables false
set_option linter.unnecessarySimpa false
set_option maxRecDepth 100000

theorem tdivN {a : Int} {b : Nat} (h : 0 ≤ a) : Int.tdiv a (b : Int) = ((a.toNat / b : Nat) : Int) := by
  obtain ⟨n, rfl⟩ : ∃ n : Nat, a = n := ⟨a.toNat, by omega⟩
  rw [Int.toNat_natCast, Int.tdiv_eq_ediv_of_nonneg (by omega)]; rfl
theorem tmodI {a : Int} {b : Nat} (h : 0 ≤ a) : Int.tmod a (b : Int) = ((a.toNat % b : Nat) : Int) := by
  obtain ⟨n, rfl⟩ : ∃ n : Nat, a = n := ⟨a.toNat, by omega⟩
  rw [Int.toNat_natCast, Int.tmod_eq_emod_of_nonneg (by omega)]; rfl
theorem wrap_u8 {a : Int} (h0 : 0 ≤ a) (h1 : a < 256) : IntKind.wrap .u8 a = a := by
  simp only [IntKind.wrap, IntKind.signed, IntKind.bits]; simp; omega
theorem c17 : COk cfg 17 putStC := by
  have hT := ctab_ok (ctab_cons c34 (ctab_cons c37 ctab_nil))
  refine cok_pure pf17 fun vs h K ht => ?_
  obtain ⟨st, w, n, hw, ⟨hs0, hs1⟩, ⟨hn0, hn1⟩, rfl, hk⟩ := ht
  have bad : (badSt st w || decide (n < 0) || decide (1 < n)) = true → AV.tup [AV.str [], AV.int .i64 4] = AV.tup [AV.str (putSt st w n).1, AV.int .i64 (putSt st w n).2] := fun hb => by
    unfold putSt
    rw [if_pos hb]
  have hver : (verM n).length = 8 := by unfold verM; split <;> rfl
  refine ⟨_, hk, t17 hT (ifP_intro (fun k => bad ?_) fun k => ifP_intro (fun m => bad ?_) fun m => ⟨w, by omega, rfl, ifP_intro (fun o => bad ?_) fun o => ifP_intro (fun p => ifP_intro (fun q => bad ?_) fun q => ?_) fun p => ?_⟩)⟩
  · unfold badSt
    rw [k]; rfl
  · simp only [decide_eq_true_eq] at m
    unfold badSt
    rw [decide_eq_true (p := 599 < st) (by omega)]; simp
  · unfold badSt
    rw [o]; simp
  · have h1 : ¬n = 0 := by simpa using p
    have h2 : ¬n = 1 := by simpa using q
    simp only [Bool.or_eq_true, decide_eq_true_eq]
    omega
  all_goals
    simp only [decide_eq_false_iff_not] at k m
    have hn : n = 0 ∨ n = 1 := by
      first
      | exact .inr (by simpa using q)
      | exact .inl (by simpa using p)
    have e1 : Int.tdiv st 100 = ((st.toNat / 100 : Nat) : Int) := tdivN (b := 100) (by omega)
    have e2 : Int.tdiv st 10 = ((st.toNat / 10 : Nat) : Int) := tdivN (b := 10) (by omega)
    have e3 : Int.tmod st 10 = ((st.toNat % 10 : Nat) : Int) := tmodI (b := 10) (by omega)
    have e4 : Int.tmod ((st.toNat / 10 : Nat) : Int) 10 = ((st.toNat / 10 % 10 : Nat) : Int) := by rw [show (10 : Int) = ((10 : Nat) : Int) from rfl, tmodI (by omega), Int.toNat_natCast]
    have w1 : IntKind.wrap .i64 ((st.toNat / 100 : Nat) : Int) = ((st.toNat / 100 : Nat) : Int) := wrap_in (by omega) (by omega)
    have w2 : IntKind.wrap .i64 ((st.toNat / 10 : Nat) : Int) = ((st.toNat / 10 : Nat) : Int) := wrap_in (by omega) (by omega)
    have w3 : IntKind.wrap .i64 (48 + ((st.toNat / 100 : Nat) : Int)) = 48 + ((st.toNat / 100 : Nat) : Int) := wrap_in (by omega) (by omega)
    have w4 : IntKind.wrap .i64 (48 + ((st.toNat / 10 % 10 : Nat) : Int)) = 48 + ((st.toNat / 10 % 10 : Nat) : Int) := wrap_in (by omega) (by omega)
    have w5 : IntKind.wrap .i64 (48 + ((st.toNat % 10 : Nat) : Int)) = 48 + ((st.toNat % 10 : Nat) : Int) := wrap_in (by omega) (by omega)
    rw [e1, e2, e3, w1, w2, e4, w3, w4, w5, wrap_u8 (a := 48 + ((st.toNat / 100 : Nat) : Int)) (by omega) (by omega), wrap_u8 (a := 48 + ((st.toNat / 10 % 10 : Nat) : Int)) (by omega) (by omega), wrap_u8 (a := 48 + ((st.toNat % 10 : Nat) : Int)) (by omega) (by omega)]
    have t1 : Int.toNat (48 + ((st.toNat / 100 : Nat) : Int)) = 48 + st.toNat / 100 := by omega
    have t2 : Int.toNat (48 + ((st.toNat / 10 % 10 : Nat) : Int)) = 48 + st.toNat / 10 % 10 := by omega
    have t3 : Int.toNat (48 + ((st.toNat % 10 : Nat) : Int)) = 48 + st.toNat % 10 := by omega
    rw [t1, t2, t3]
    have es : verM n ++ [32] ++ [UInt8.ofNat (48 + st.toNat / 100), UInt8.ofNat (48 + st.toNat / 10 % 10), UInt8.ofNat (48 + st.toNat % 10)] ++ [32] ++ w = stS st w n := by
      unfold stS verM
      rcases hn with rfl | rfl <;> simp [verS]
    have hb : badSt st w = false := by
      unfold badSt
      rw [decide_eq_false k, decide_eq_false (p := 599 < st) (by omega), Eq.mp (Bool.not_eq_false' _) o]; rfl
    refine gAnd_intro ?_ ⟨n, rfl, gAnd_intro (okL (by rw [hver]; omega)) (gAnd_intro (okL (by simp [hver])) (gAnd_intro (okL (by simp [hver])) (gAnd_intro (okL (by simp [hver]; omega)) ?_)))⟩
    · simp only [Bool.and_eq_true, decide_eq_true_eq, and_true, eq_self_iff_true]
      omega
    · rw [es]
      unfold putSt
      rw [hb, decide_eq_false (p := n < 0) (by omega), decide_eq_false (p := 1 < n) (by omega), if_neg (by simp)]
      refine ifP_intro (fun z => ?_) fun z => ?_
      · simp only [decide_eq_true_eq] at z
        rw [if_pos (by omega)]
      · simp only [decide_eq_false_iff_not] at z
        rw [if_neg (by omega)]

/-! The document's readers -/
theorem ver_minor {v : List UInt8} {a b : UInt8} (h : verOf v = some (a, b)) : (if v.getD 7 0 = 48 then (0 : Int) else 1) = ((min 1 (b.toNat - 48) : Nat) : Int) := by
  obtain ⟨rfl, ha, hb⟩ := verOf_some h
  have hd := dg_range hb
  show (if b = 48 then (0 : Int) else 1) = _
  by_cases e : b = 48
  · subst e; rfl
  · have : b.toNat ≠ 48 := fun k => e (UInt8.toNat_inj.1 k)
    rw [if_neg e]; omega
theorem split13 {s : List UInt8} (h : 13 ≤ s.length) : ∃ v x c0 c1 c2 y w, v.length = 8 ∧ s = v ++ x :: c0 :: c1 :: c2 :: y :: w := by
  match s, h with
  | a :: b :: c :: d :: e :: f :: g :: i :: x :: c0 :: c1 :: c2 :: y :: w, _ => exact ⟨[a, b, c, d, e, f, g, i], x, c0, c1, c2, y, w, rfl, rfl⟩
theorem byte_eq {x : UInt8} {n : Nat} (hn : n < 256) (h : (x.toNat : Int) = n) : x = UInt8.ofNat n := UInt8.toNat_inj.1 (by rw [ofNat_toNat hn]; omega)
theorem dig_int {c : UInt8} (h : isDg c = true) : IntKind.wrap .i64 (IntKind.wrap .u8 ((c.toNat : Int) - 48)) = ((c.toNat - 48 : Nat) : Int) := by
  have := dg_range h
  rw [wrap_u8 (by omega) (by omega), wrap_in (by omega) (by omega)]; omega
theorem c13 : COk cfg 13 stC := by
  have hT := ctab_ok (ctab_cons c27 (ctab_cons c30 (ctab_cons c33 (ctab_cons c34 ctab_nil))))
  refine cok_pure pf13 fun vs h K ht => ?_
  obtain ⟨s, hs, rfl, hk⟩ := ht
  refine ⟨_, hk, t13 hT ?_⟩
  unfold big at hs
  have bad : s.length ≤ 2048 → (∀ v w c0 c1 c2 a b, ¬IsSt s v w c0 c1 c2 a b) → AV.tup [AV.int .i64 0, AV.str [], AV.int .i64 0, AV.int .i64 4] = AV.tup [AV.int .i64 (stP s).1, AV.str (stP s).2.1, AV.int .i64 (stP s).2.2.1, AV.int .i64 (stP s).2.2.2] :=
    fun hl hn => by rw [st_none hn hl]
  refine ifP_intro (fun a => ?_) fun a => ifP_intro (fun b => bad ?_ ?_) fun b => ?_
  · unfold stP
    rw [if_pos (by simp at a; omega)]
  · simp at a; omega
  · intro v w c0 c1 c2 x y k
    have hv := (verOf_some k.ver).1
    have := congrArg List.length k.eq
    rw [hv] at this
    simp at this b
    omega
  · have hle : s.length ≤ 2048 := by simp at a; omega
    obtain ⟨v, x, c0, c1, c2, y, w, hv8, rfl⟩ := split13 (s := s) (by simp at b; omega)
    have g5 : List.getD (v ++ x :: c0 :: c1 :: c2 :: y :: w) 5 0 = List.getD v 5 0 := by
      simp [List.getD_eq_getElem?_getD, List.getElem?_append_left, hv8]
    have g8 : List.getD (v ++ x :: c0 :: c1 :: c2 :: y :: w) 8 0 = x := by simp [List.getD_eq_getElem?_getD, List.getElem?_append_right, hv8]
    have g9 : List.getD (v ++ x :: c0 :: c1 :: c2 :: y :: w) 9 0 = c0 := by simp [List.getD_eq_getElem?_getD, List.getElem?_append_right, hv8]
    have g10 : List.getD (v ++ x :: c0 :: c1 :: c2 :: y :: w) 10 0 = c1 := by simp [List.getD_eq_getElem?_getD, List.getElem?_append_right, hv8]
    have g11 : List.getD (v ++ x :: c0 :: c1 :: c2 :: y :: w) 11 0 = c2 := by simp [List.getD_eq_getElem?_getD, List.getElem?_append_right, hv8]
    have g12 : List.getD (v ++ x :: c0 :: c1 :: c2 :: y :: w) 12 0 = y := by simp [List.getD_eq_getElem?_getD, List.getElem?_append_right, hv8]
    have hlen : (v ++ x :: c0 :: c1 :: c2 :: y :: w).length = 13 + w.length := by simp [hv8]; omega
    have t8 : cutL (v ++ x :: c0 :: c1 :: c2 :: y :: w) none (some 8) = v := by
      show List.take 8 _ = v
      rw [List.take_left' hv8]
    have d13 : cutL (v ++ x :: c0 :: c1 :: c2 :: y :: w) (some 13) none = w := by
      show List.drop 13 _ = w
      rw [show (13 : Nat) = v.length + 5 by omega, List.drop_append]
      simp
    rw [g5, g8, g9, g10, g11, g12, t8, d13]
    -- what a line of a reply would be
    have form : ∀ {v' w' : List UInt8} {d0 d1 d2 p q : UInt8}, IsSt (v ++ x :: c0 :: c1 :: c2 :: y :: w) v' w' d0 d1 d2 p q → v' = v ∧ x = 32 ∧ d0 = c0 ∧ d1 = c1 ∧ d2 = c2 ∧ y = 32 ∧ w' = w := by
      intro v' w' d0 d1 d2 p q k
      have h8 : v'.length = 8 := by rw [(verOf_some k.ver).1]; rfl
      have he := List.append_inj k.eq (by omega)
      obtain ⟨e1, e2⟩ := he
      simp only [List.cons.injEq] at e2
      obtain ⟨e2, e3, e4, e5, e6, e7⟩ := e2
      exact ⟨e1.symm, e2, e3.symm, e4.symm, e5.symm, e6, e7.symm⟩
    have no : (verOf v = none ∨ x ≠ 32 ∨ ¬(49 ≤ c0.toNat ∧ c0.toNat ≤ 53) ∨ isDg c1 = false ∨ isDg c2 = false ∨ y ≠ 32 ∨ w.all reasonB = false) → AV.tup [AV.int .i64 0, AV.str [], AV.int .i64 0, AV.int .i64 4] = AV.tup [AV.int .i64 (stP (v ++ x :: c0 :: c1 :: c2 :: y :: w)).1, AV.str (stP (v ++ x :: c0 :: c1 :: c2 :: y :: w)).2.1, AV.int .i64 (stP (v ++ x :: c0 :: c1 :: c2 :: y :: w)).2.2.1, AV.int .i64 (stP (v ++ x :: c0 :: c1 :: c2 :: y :: w)).2.2.2] := fun hw => by
      refine bad hle fun v' w' d0 d1 d2 p q k => ?_
      obtain ⟨rfl, rfl, rfl, rfl, rfl, rfl, rfl⟩ := form k
      rcases hw with h | h | h | h | h | h | h
      · rw [k.ver] at h; cases h
      · exact h rfl
      · exact h k.first
      · rw [k.dg1] at h; cases h
      · rw [k.dg2] at h; cases h
      · exact h rfl
      · rw [k.rsn] at h; cases h
    have inn : ∀ i : Int, 0 ≤ i → i < 13 → inR i (v ++ x :: c0 :: c1 :: c2 :: y :: w).length = true := fun i h0 h1 => inR_of h0 (by rw [hlen]; omega)
    have cut8 : cutOb (v ++ x :: c0 :: c1 :: c2 :: y :: w).length none (some 8) = true := by rw [hlen]; simp [cutOb]; omega
    have cut13 : cutOb (v ++ x :: c0 :: c1 :: c2 :: y :: w).length (some 13) none = true := by rw [hlen]; simp [cutOb]; omega
    refine gAnd_intro cut8 ⟨v, by omega, rfl, ifP_intro (fun k => no (.inl ?_)) fun k => gAnd_intro (inn 8 (by omega) (by omega)) (ifP_intro (fun m => no (.inr (.inl ?_))) fun m => gAnd_intro (inn 9 (by omega) (by omega)) (ifP_intro (fun n => no (.inr (.inr (.inl ?_)))) fun n => gAnd_intro (inn 9 (by omega) (by omega))
      (ifP_intro (fun o => no (.inr (.inr (.inl ?_)))) fun o => gAnd_intro (inn 10 (by omega) (by omega)) ⟨c1, rfl, ifP_intro (fun p => no (.inr (.inr (.inr (.inl ?_))))) fun p => gAnd_intro (inn 11 (by omega) (by omega)) ⟨c2, rfl, ifP_intro (fun q => no (.inr (.inr (.inr (.inr (.inl ?_)))))) fun q => gAnd_intro (inn 12 (by omega) (by omega))
        (ifP_intro (fun r => no (.inr (.inr (.inr (.inr (.inr (.inl ?_))))))) fun r => gAnd_intro cut13 ⟨w, by omega, rfl, ifP_intro (fun t => no (.inr (.inr (.inr (.inr (.inr (.inr ?_))))))) fun t => gAnd_intro (inn 5 (by omega) (by omega)) ?_⟩)⟩⟩)))⟩
    · have : isVer v = false := Eq.mp (Bool.not_eq_true' _) k
      unfold isVer at this
      cases hvv : verOf v with
      | none => rfl
      | some _ => rw [hvv] at this; cases this
    · rintro rfl; cases m
    · simp only [decide_eq_true_eq] at n; omega
    · simp only [decide_eq_true_eq] at o; omega
    · exact Eq.mp (Bool.not_eq_true' _) p
    · exact Eq.mp (Bool.not_eq_true' _) q
    · rintro rfl; cases r
    · exact Eq.mp (Bool.not_eq_true' _) t
    · have hver : isVer v = true := Eq.mp (Bool.not_eq_false' _) k
      obtain ⟨⟨p1, p2⟩, hvv⟩ : ∃ ab, verOf v = some ab := by
        unfold isVer at hver
        cases hvv : verOf v with
        | none => rw [hvv] at hver; cases hver
        | some ab => exact ⟨ab, rfl⟩
      have x32 : x = 32 := byte_eq (n := 32) (by omega) (by simpa using m)
      have y32 : y = 32 := byte_eq (n := 32) (by omega) (by simpa using r)
      simp only [decide_eq_false_iff_not] at n o
      have q1 : isDg c1 = true := Eq.mp (Bool.not_eq_false' _) p
      have q2 : isDg c2 = true := Eq.mp (Bool.not_eq_false' _) q
      have q3 : w.all reasonB = true := Eq.mp (Bool.not_eq_false' _) t
      have hst : IsSt (v ++ x :: c0 :: c1 :: c2 :: y :: w) v w c0 c1 c2 p1 p2 := ⟨by rw [x32, y32], hvv, by omega, q1, q2, q3⟩
      rw [st_some hst hle]
      have v5 : List.getD v 5 0 = p1 := by rw [(verOf_some hvv).1]; rfl
      rw [v5]
      refine ifP_intro (fun z => ?_) fun z => ?_
      · rw [if_neg fun e => by rw [e] at z; cases z]
      · have hp : p1 = 49 := byte_eq (n := 49) (by omega) (by simpa using z)
        rw [if_pos hp]
        refine gAnd_intro (inn 9 (by omega) (by omega)) (gAnd_intro (inn 10 (by omega) (by omega)) (gAnd_intro (inn 11 (by omega) (by omega)) (gAnd_intro cut13 (gAnd_intro cut8 ⟨v, by omega, rfl, ?_⟩))))
        have q0 := first_dg (c := c0) (by omega)
        have r0 := dg_range q0
        have r1 := dg_range q1
        have r2 := dg_range q2
        rw [dig_int q0, dig_int q1, dig_int q2, ver_minor hvv]
        have eN : IntKind.wrap .i64 (IntKind.wrap .i64 (IntKind.wrap .i64 (100 * ((c0.toNat - 48 : Nat) : Int)) + IntKind.wrap .i64 (10 * ((c1.toNat - 48 : Nat) : Int))) + ((c2.toNat - 48 : Nat) : Int)) = codeN [c0, c1, c2] := by
          rw [wrap_in (n := 100 * ((c0.toNat - 48 : Nat) : Int)) (by omega) (by omega), wrap_in (n := 10 * ((c1.toNat - 48 : Nat) : Int)) (by omega) (by omega), wrap_in (n := 100 * ((c0.toNat - 48 : Nat) : Int) + 10 * ((c1.toNat - 48 : Nat) : Int)) (by omega) (by omega), wrap_in (by omega) (by omega)]
          rfl
        rw [eN]
end Go.Proofs.YtahojaolkehojaaDoor
end

section
namespace Go.Proofs.YtahojaolkehojaaDoor
open Go.Ai Go
set_option linter.unusedSimpArgs false
set_option linter.unusedVariables false
set_option linter.unnecessarySimpa false
set_option maxRecDepth 100000

def reqV (s : List UInt8) : AV := .tup [.str (reqP s).1, .str (reqP s).2.1, .int .i64 (reqP s).2.2.1, .int .i64 (reqP s).2.2.2]
theorem tab11 : TabOk cfg (ctab [(27, strC isVer), (28, strC tokenB), (29, strC (fun s => s.all targetB && !s.isEmpty)), (30, minorC)]) := ctab_ok (ctab_cons c27 (ctab_cons c28 (ctab_cons c29 (ctab_cons c30 ctab_nil))))

theorem loop11 {u v : List UInt8} {x y : UInt8} (hv : verOf v = some (x, y)) (hl : (u ++ 32 :: v).length ≤ 2048) : ∀ (r pre : List UInt8), u = pre ++ r →
    (∀ m p : List UInt8, u = m ++ 32 :: p → tokenB m = true → p.all targetB = true → p ≠ [] → pre.length ≤ m.length) →
    ToEnd cfg 11 (bodyOf Tryd.f11) (RetIs Tryd.prog Tryd.f11 (reqV (u ++ 32 :: v))) [.code [0, 1, 0, 1, 1, 1, 1], .block 0, .code [1, 1, 1, 1, 1]] .normal [(0, true, .str (u ++ 32 :: v)), (6, true, .int .i64 u.length), (7, true, .int .i64 pre.length)] [] := by
  have hv8 : v.length = 8 := by rw [(verOf_some hv).1]; rfl
  have hlen : (u ++ 32 :: v).length = u.length + 9 := by simp [hv8]
  have uniq : ∀ {m p v' : List UInt8} {a b : UInt8}, IsReq (u ++ 32 :: v) m p v' a b → u = m ++ 32 :: p := by
    intro m p v' a b k
    have h8 : v'.length = 8 := by rw [(verOf_some k.ver).1]; rfl
    have e : u ++ 32 :: v = (m ++ 32 :: p) ++ 32 :: v' := by rw [k.eq]; simp
    have hl2 := congrArg List.length e
    simp [hv8, h8] at hl2
    exact (List.append_inj e (by simp; omega)).1
  intro r
  induction r with
  | nil =>
    intro pre hu hinv
    rw [List.append_nil] at hu
    subst hu
    refine t11b (s := []) tab11 (ifP_intro (fun a => ?_) fun _ => ?_)
    · simp at a
    · unfold reqV
      rw [req_none (fun m p v' a b k => ?_) hl]
      have e := uniq k
      have := hinv m p e k.tok k.tgt k.ne
      rw [e] at this
      simp at this
      omega
  | cons c r ih =>
    intro pre hu hinv
    have hul : u.length = pre.length + 1 + r.length := by rw [hu]; simp; omega
    have hin : inR (pre.length : Int) (u ++ 32 :: v).length = true := inR_of (by omega) (by rw [hlen]; omega)
    have hget : List.getD (u ++ 32 :: v) (Int.toNat (pre.length : Int)) 0 = c := by
      rw [hu, List.append_assoc, List.cons_append]
      exact at_pre _ _ _
    have hw : IntKind.wrap .i64 ((pre.length : Int) + 1) = ((pre.length + 1 : Nat) : Int) := wrap_n (by unfold big; omega)
    have hpre : cutL (u ++ 32 :: v) none (some (pre.length : Int)) = pre := by
      show List.take (pre.length : Int).toNat _ = pre
      rw [hu, Int.toNat_natCast, List.append_assoc, List.take_left']
      rfl
    have hr : cutL (u ++ 32 :: v) (some ((pre.length + 1 : Nat) : Int)) (some (u.length : Int)) = r := by
      show List.drop ((pre.length + 1 : Nat) : Int).toNat (List.take (u.length : Int).toNat _) = r
      rw [Int.toNat_natCast, Int.toNat_natCast, List.take_left' rfl, hu, List.drop_append]
      simp
    have next : (∀ m p : List UInt8, u = m ++ 32 :: p → tokenB m = true → p.all targetB = true → p ≠ [] → m.length ≠ pre.length) →
        ToEnd cfg 11 (bodyOf Tryd.f11) (RetIs Tryd.prog Tryd.f11 (reqV (u ++ 32 :: v))) [.code [0, 1, 0, 1, 1, 1, 1], .block 0, .code [1, 1, 1, 1, 1]] .normal [(0, true, .str (u ++ 32 :: v)), (6, true, .int .i64 u.length), (7, true, .int .i64 ((pre.length + 1 : Nat) : Int))] [] := by
      intro hne
      have := ih (pre ++ [c]) (by rw [hu]; simp) fun m p e k1 k2 k3 => by
        have h1 := hinv m p e k1 k2 k3
        have h2 := hne m p e k1 k2 k3
        simp; omega
      simpa using this
    -- a piece that is cut at this place
    have here : ∀ m p : List UInt8, u = m ++ 32 :: p → m.length = pre.length → m = pre ∧ c = 32 ∧ p = r := by
      intro m p e hm
      rw [hu] at e
      obtain ⟨e1, e2⟩ := List.append_inj e (by omega)
      injection e2 with e2 e3
      exact ⟨e1.symm, e2, e3.symm⟩
    refine t11b (s := []) tab11 (ifP_intro (fun _ => gAnd_intro hin ?_) fun a => ?_)
    · rw [hget, hw, hpre, hr]
      refine ifP_intro (fun b => next fun m p e _ _ _ hm => ?_) fun b => gAnd_intro (by simp [cutOb]; omega) ⟨pre, by omega, rfl, ifP_intro (fun d => next fun m p e k1 _ _ hm => ?_) fun d => gAnd_intro (by simp [cutOb]; omega) ⟨r, by omega, rfl, ifP_intro (fun f => next fun m p e _ k2 k3 hm => ?_) fun f => ?_⟩⟩
      · obtain ⟨_, rfl, _⟩ := here m p e hm
        cases b
      · obtain ⟨rfl, _, _⟩ := here m p e hm
        rw [k1] at d; cases d
      · obtain ⟨_, _, rfl⟩ := here m p e hm
        have hem : p.isEmpty = false := by
          cases p with
          | nil => exact absurd rfl k3
          | cons _ _ => rfl
        have f' : (p.all targetB && !p.isEmpty) = false := Eq.mp (Bool.not_eq_true' _) f
        rw [k2, hem] at f'
        cases f'
      · have hc : c = 32 := byte_eq (n := 32) (by omega) (by simpa using b)
        subst hc
        have htok : tokenB pre = true := Eq.mp (Bool.not_eq_false' _) d
        have f' : (r.all targetB && !r.isEmpty) = true := Eq.mp (Bool.not_eq_false' _) f
        simp only [Bool.and_eq_true, Bool.not_eq_true'] at f'
        have hne : r ≠ [] := fun e => by rw [e] at f'; simp at f'
        have hreq : IsReq (u ++ 32 :: v) pre r v x y := ⟨by rw [hu]; simp, htok, f'.1, hne, hv⟩
        have hx : List.getD (u ++ 32 :: v) (Int.toNat ((u.length + 6 : Nat) : Int)) 0 = x := by
          rw [Int.toNat_natCast, List.getD_eq_getElem?_getD, List.getElem?_append_right (by omega), show u.length + 6 - u.length = 6 by omega, (verOf_some hv).1]
          rfl
        have w6 : IntKind.wrap .i64 ((u.length : Int) + 6) = ((u.length + 6 : Nat) : Int) := by rw [wrap_in] <;> omega
        have w1 : IntKind.wrap .i64 ((u.length : Int) + 1) = ((u.length + 1 : Nat) : Int) := by rw [wrap_in] <;> omega
        have wd : IntKind.wrap .i64 (IntKind.wrap .i64 ((u.length : Int) - (pre.length : Int)) - 1) = (r.length : Int) := by
          rw [wrap_in (n := (u.length : Int) - pre.length) (by omega) (by omega), wrap_in (by omega) (by omega)]; omega
        have hdv : cutL (u ++ 32 :: v) (some ((u.length + 1 : Nat) : Int)) none = v := by
          show List.drop ((u.length + 1 : Nat) : Int).toNat _ = v
          rw [Int.toNat_natCast, List.drop_append]
          simp
        rw [w6, w1, wd, hx, hdv]
        unfold reqV
        rw [req_some hreq hl]
        refine gAnd_intro (inR_of (by omega) (by rw [hlen]; omega)) (ifP_intro (fun z => ?_) fun z => ifP_intro (fun o => ?_) fun o => gAnd_intro (by simp [cutOb]; omega) (gAnd_intro (by simp [cutOb]; omega) (gAnd_intro (by simp [cutOb]; omega) ⟨v, by omega, rfl, ?_⟩)))
        · rw [if_neg fun e => by rw [e] at z; cases z]
        · have hp : x = 49 := byte_eq (n := 49) (by omega) (by simpa using z)
          simp only [decide_eq_true_eq] at o
          rw [if_pos hp, if_pos (by omega)]
        · have hp : x = 49 := byte_eq (n := 49) (by omega) (by simpa using z)
          simp only [decide_eq_false_iff_not] at o
          rw [ver_minor hv, if_pos hp, if_neg (by omega)]
    · simp only [decide_eq_false_iff_not] at a; omega
theorem split9 {s : List UInt8} (h : 9 ≤ s.length) : ∃ u y v, v.length = 8 ∧ s = u ++ y :: v := by
  have h1 : (s.drop (s.length - 9)).length = 9 := by simp; omega
  match hd : s.drop (s.length - 9), h1 with
  | y :: v, h1 =>
    refine ⟨s.take (s.length - 9), y, v, by simp at h1; omega, ?_⟩
    rw [← hd, List.take_append_drop]
theorem c11 : COk cfg 11 reqC := by
  refine cok_pure pf11 fun vs h K ht => ?_
  obtain ⟨s, hs, rfl, hk⟩ := ht
  refine ⟨_, hk, t11a tab11 ?_⟩
  unfold big at hs
  have w9 : IntKind.wrap .i64 ((s.length : Int) - 9) = (s.length : Int) - 9 := wrap_in (by omega) (by omega)
  rw [w9]
  have bad : s.length ≤ 2048 → (∀ m p v a b, ¬IsReq s m p v a b) → AV.tup [AV.str [], AV.str [], AV.int .i64 0, AV.int .i64 4] = reqV s := fun hl hn => by unfold reqV; rw [req_none hn hl]
  refine ifP_intro (fun a => ?_) fun a => ifP_intro (fun b => bad ?_ ?_) fun b => ?_
  · show _ = reqV s
    unfold reqV reqP
    rw [if_pos (by simp at a; omega)]
  · simp at a; omega
  · intro m p v x y k
    have hv := (verOf_some k.ver).1
    have := congrArg List.length k.eq
    rw [hv] at this
    simp at this b
    omega
  · have hle : s.length ≤ 2048 := by simp at a; omega
    obtain ⟨u, y, v, hv8, rfl⟩ := split9 (s := s) (by simp at b; omega)
    have hlen : (u ++ y :: v).length = u.length + 9 := by simp [hv8]
    have en : ((u ++ y :: v).length : Int) - 9 = (u.length : Int) := by rw [hlen]; omega
    have w1 : IntKind.wrap .i64 ((u.length : Int) + 1) = ((u.length + 1 : Nat) : Int) := by rw [wrap_in] <;> omega
    have hdv : cutL (u ++ y :: v) (some ((u.length + 1 : Nat) : Int)) none = v := by
      show List.drop ((u.length + 1 : Nat) : Int).toNat _ = v
      rw [Int.toNat_natCast, List.drop_append]
      simp
    rw [en, at_pre, w1, hdv]
    have form : ∀ {m p v' : List UInt8} {x z : UInt8}, IsReq (u ++ y :: v) m p v' x z → y = 32 ∧ v' = v := by
      intro m p v' x z k
      have h8 : v'.length = 8 := by rw [(verOf_some k.ver).1]; rfl
      have e : u ++ y :: v = (m ++ 32 :: p) ++ 32 :: v' := by rw [k.eq]; simp
      have hl2 := congrArg List.length e
      simp [hv8, h8] at hl2
      obtain ⟨_, e2⟩ := List.append_inj e (by simp; omega)
      injection e2 with e2 e3
      exact ⟨e2, e3.symm⟩
    refine gAnd_intro (inR_of (by omega) (by rw [hlen]; omega)) (ifP_intro (fun d => bad hle fun m p v' x z k => ?_) fun d => gAnd_intro (by rw [hlen]; simp [cutOb]; omega) ⟨v, by omega, rfl, ifP_intro (fun f => bad hle fun m p v' x z k => ?_) fun f => ?_⟩)
    · rw [(form k).1] at d; cases d
    · have f' : isVer v = false := Eq.mp (Bool.not_eq_true' _) f
      unfold isVer at f'
      rw [← (form k).2, k.ver] at f'; cases f'
    · have hy : y = 32 := byte_eq (n := 32) (by omega) (by simpa using d)
      subst hy
      have f' : isVer v = true := Eq.mp (Bool.not_eq_false' _) f
      obtain ⟨⟨p1, p2⟩, hvv⟩ : ∃ ab, verOf v = some ab := by
        unfold isVer at f'
        cases hvv : verOf v with
        | none => rw [hvv] at f'; cases f'
        | some ab => exact ⟨ab, rfl⟩
      exact loop11 hvv hle u [] rfl fun m p _ _ _ _ => Nat.zero_le _
end Go.Proofs.YtahojaolkehojaaDoor
end
