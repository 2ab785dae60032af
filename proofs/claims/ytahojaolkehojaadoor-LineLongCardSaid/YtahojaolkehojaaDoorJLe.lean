/-
  Runs of functions of start lines, printed by a home tool; each is the kernel's word.
  Start lines: the statements' contracts.
  Start lines: what is put is read again; what is read may be put: the statements' contracts.
-/
import Derived.Test.YtahojaolkehojaaDoorCfg
import Derived.Test.YtahojaolkehojaaDoorJLb
import Derived.Test.YtahojaolkehojaaDoorJLd
section
namespace Go.Proofs.YtahojaolkehojaaDoor
open Go.Ai Go
set_option maxRecDepth 100000
set_option linter.unusedVariables false
theorem t3 {v : AV} {s : List UInt8} (hT : TabOk cfg (ctab [(9, Ai.trueC), (10, reqC), (11, reqC), (12, stC), (13, stC)])) (H :
    ifP (decide ((↑(List.length s) : Int) > 5000)) (true = true ∧ AV.bool true = v) (∃ (s1 : List UInt8), List.length s1 ≤ 100000 ∧ [AV.str s] = [AV.str s1] ∧ ∃ (s2 : List UInt8), List.length s2 ≤ 100000 ∧ [AV.str s] = [AV.str s2] ∧ ∃ (s3 : List UInt8), List.length s3 ≤ 100000 ∧ [AV.str s] = [AV.str s3] ∧ ∃ (s4 : List UInt8), List.length s4 ≤ 100000 ∧ [AV.str s] = [AV.str s4] ∧ ifP (Prod.fst (reqP s1) == Prod.fst (reqP s2)) (ifP (Prod.fst (Prod.snd (reqP s1)) == Prod.fst (Prod.snd (reqP s2))) (ifP (Prod.fst (Prod.snd (Prod.snd (reqP s1))) == Prod.fst (Prod.snd (Prod.snd (reqP s2)))) (ifP (Prod.snd (Prod.snd (Prod.snd (reqP s1))) == Prod.snd (Prod.snd (Prod.snd (reqP s2)))) (ifP (Prod.fst (stP s3) == Prod.fst (stP s4)) (ifP (Prod.fst (Prod.snd (stP s3)) == Prod.fst (Prod.snd (stP s4))) (ifP (Prod.fst (Prod.snd (Prod.snd (stP s3))) == Prod.fst (Prod.snd (Prod.snd (stP s4)))) (ifP (Prod.snd (Prod.snd (Prod.snd (stP s3))) == Prod.snd (Prod.snd (Prod.snd (stP s4)))) (true = true ∧ AV.bool true = v) (AV.bool false = v)) (AV.bool false = v)) (AV.bool false = v)) (AV.bool false = v)) (AV.bool false = v)) (AV.bool false = v)) (AV.bool false = v)) (AV.bool false = v))) :
    ToEnd cfg 3 (bodyOf Tryd.f3) (RetIs Tryd.prog Tryd.f3 v) ([.code []]) .normal ([(0, true, .str s)]) ([]) := by
  have e : unr cfg 3 (bodyOf Tryd.f3) (ctab [(9, Ai.trueC), (10, reqC), (11, reqC), (12, stC), (13, stC)]) ⟨[], []⟩ (RetIs Tryd.prog Tryd.f3 v) 100000 ([.code []]) .normal ([(0, true, .str s)]) ([]) =
    (ifP (decide ((↑(List.length s) : Int) > 5000)) (true = true ∧ AV.bool true = v) (∃ (s1 : List UInt8), List.length s1 ≤ 100000 ∧ [AV.str s] = [AV.str s1] ∧ ∃ (s2 : List UInt8), List.length s2 ≤ 100000 ∧ [AV.str s] = [AV.str s2] ∧ ∃ (s3 : List UInt8), List.length s3 ≤ 100000 ∧ [AV.str s] = [AV.str s3] ∧ ∃ (s4 : List UInt8), List.length s4 ≤ 100000 ∧ [AV.str s] = [AV.str s4] ∧ ifP (Prod.fst (reqP s1) == Prod.fst (reqP s2)) (ifP (Prod.fst (Prod.snd (reqP s1)) == Prod.fst (Prod.snd (reqP s2))) (ifP (Prod.fst (Prod.snd (Prod.snd (reqP s1))) == Prod.fst (Prod.snd (Prod.snd (reqP s2)))) (ifP (Prod.snd (Prod.snd (Prod.snd (reqP s1))) == Prod.snd (Prod.snd (Prod.snd (reqP s2)))) (ifP (Prod.fst (stP s3) == Prod.fst (stP s4)) (ifP (Prod.fst (Prod.snd (stP s3)) == Prod.fst (Prod.snd (stP s4))) (ifP (Prod.fst (Prod.snd (Prod.snd (stP s3))) == Prod.fst (Prod.snd (Prod.snd (stP s4)))) (ifP (Prod.snd (Prod.snd (Prod.snd (stP s3))) == Prod.snd (Prod.snd (Prod.snd (stP s4)))) (true = true ∧ AV.bool true = v) (AV.bool false = v)) (AV.bool false = v)) (AV.bool false = v)) (AV.bool false = v)) (AV.bool false = v)) (AV.bool false = v)) (AV.bool false = v)) (AV.bool false = v))) := by kernel_rfl
  exact unr_ok hT 100000 _ _ _ _ (e.mpr H)

theorem t4 {v : AV} {a b : List UInt8} {n0 n1 : Int} (hT : TabOk cfg (ctab [(9, Ai.trueC), (14, putReqC), (15, putReqC), (16, putStC), (17, putStC)])) (H :
    ifP (decide ((↑(List.length a) : Int) > 5000)) (true = true ∧ AV.bool true = v) (ifP (decide ((↑(List.length b) : Int) > 5000)) (true = true ∧ AV.bool true = v) (∃ (a1 : List UInt8), ∃ (b2 : List UInt8), ∃ (n3 : Int), List.length a1 ≤ 10000 ∧ List.length b2 ≤ 10000 ∧ (-9223372036854775808 ≤ n3 ∧ n3 ≤ 9223372036854775807) ∧ [AV.str a, AV.str b, AV.int IntKind.i64 n0] = [AV.str a1, AV.str b2, AV.int IntKind.i64 n3] ∧ ∃ (a4 : List UInt8), ∃ (b5 : List UInt8), ∃ (n6 : Int), List.length a4 ≤ 10000 ∧ List.length b5 ≤ 10000 ∧ (-9223372036854775808 ≤ n6 ∧ n6 ≤ 9223372036854775807) ∧ [AV.str a, AV.str b, AV.int IntKind.i64 n0] = [AV.str a4, AV.str b5, AV.int IntKind.i64 n6] ∧ ∃ (st7 : Int), ∃ (w8 : List UInt8), ∃ (n9 : Int), List.length w8 ≤ 10000 ∧ (-9223372036854775808 ≤ st7 ∧ st7 ≤ 9223372036854775807) ∧ (-9223372036854775808 ≤ n9 ∧ n9 ≤ 9223372036854775807) ∧ [AV.int IntKind.i64 n1, AV.str b, AV.int IntKind.i64 n0] = [AV.int IntKind.i64 st7, AV.str w8, AV.int IntKind.i64 n9] ∧ ∃ (st10 : Int), ∃ (w11 : List UInt8), ∃ (n12 : Int), List.length w11 ≤ 10000 ∧ (-9223372036854775808 ≤ st10 ∧ st10 ≤ 9223372036854775807) ∧ (-9223372036854775808 ≤ n12 ∧ n12 ≤ 9223372036854775807) ∧ [AV.int IntKind.i64 n1, AV.str b, AV.int IntKind.i64 n0] = [AV.int IntKind.i64 st10, AV.str w11, AV.int IntKind.i64 n12] ∧ ifP (Prod.fst (putReq a1 b2 n3) == Prod.fst (putReq a4 b5 n6)) (ifP (Prod.snd (putReq a1 b2 n3) == Prod.snd (putReq a4 b5 n6)) (ifP (Prod.fst (putSt st7 w8 n9) == Prod.fst (putSt st10 w11 n12)) (ifP (Prod.snd (putSt st7 w8 n9) == Prod.snd (putSt st10 w11 n12)) (true = true ∧ AV.bool true = v) (AV.bool false = v)) (AV.bool false = v)) (AV.bool false = v)) (AV.bool false = v)))) :
    ToEnd cfg 4 (bodyOf Tryd.f4) (RetIs Tryd.prog Tryd.f4 v) ([.code []]) .normal ([(0, true, .str a), (1, true, .str b), (2, true, .agg [.int .i64 n0, .int .i64 n1])]) ([]) := by
  have e : unr cfg 4 (bodyOf Tryd.f4) (ctab [(9, Ai.trueC), (14, putReqC), (15, putReqC), (16, putStC), (17, putStC)]) ⟨[], []⟩ (RetIs Tryd.prog Tryd.f4 v) 100000 ([.code []]) .normal ([(0, true, .str a), (1, true, .str b), (2, true, .agg [.int .i64 n0, .int .i64 n1])]) ([]) =
    (ifP (decide ((↑(List.length a) : Int) > 5000)) (true = true ∧ AV.bool true = v) (ifP (decide ((↑(List.length b) : Int) > 5000)) (true = true ∧ AV.bool true = v) (∃ (a1 : List UInt8), ∃ (b2 : List UInt8), ∃ (n3 : Int), List.length a1 ≤ 10000 ∧ List.length b2 ≤ 10000 ∧ (-9223372036854775808 ≤ n3 ∧ n3 ≤ 9223372036854775807) ∧ [AV.str a, AV.str b, AV.int IntKind.i64 n0] = [AV.str a1, AV.str b2, AV.int IntKind.i64 n3] ∧ ∃ (a4 : List UInt8), ∃ (b5 : List UInt8), ∃ (n6 : Int), List.length a4 ≤ 10000 ∧ List.length b5 ≤ 10000 ∧ (-9223372036854775808 ≤ n6 ∧ n6 ≤ 9223372036854775807) ∧ [AV.str a, AV.str b, AV.int IntKind.i64 n0] = [AV.str a4, AV.str b5, AV.int IntKind.i64 n6] ∧ ∃ (st7 : Int), ∃ (w8 : List UInt8), ∃ (n9 : Int), List.length w8 ≤ 10000 ∧ (-9223372036854775808 ≤ st7 ∧ st7 ≤ 9223372036854775807) ∧ (-9223372036854775808 ≤ n9 ∧ n9 ≤ 9223372036854775807) ∧ [AV.int IntKind.i64 n1, AV.str b, AV.int IntKind.i64 n0] = [AV.int IntKind.i64 st7, AV.str w8, AV.int IntKind.i64 n9] ∧ ∃ (st10 : Int), ∃ (w11 : List UInt8), ∃ (n12 : Int), List.length w11 ≤ 10000 ∧ (-9223372036854775808 ≤ st10 ∧ st10 ≤ 9223372036854775807) ∧ (-9223372036854775808 ≤ n12 ∧ n12 ≤ 9223372036854775807) ∧ [AV.int IntKind.i64 n1, AV.str b, AV.int IntKind.i64 n0] = [AV.int IntKind.i64 st10, AV.str w11, AV.int IntKind.i64 n12] ∧ ifP (Prod.fst (putReq a1 b2 n3) == Prod.fst (putReq a4 b5 n6)) (ifP (Prod.snd (putReq a1 b2 n3) == Prod.snd (putReq a4 b5 n6)) (ifP (Prod.fst (putSt st7 w8 n9) == Prod.fst (putSt st10 w11 n12)) (ifP (Prod.snd (putSt st7 w8 n9) == Prod.snd (putSt st10 w11 n12)) (true = true ∧ AV.bool true = v) (AV.bool false = v)) (AV.bool false = v)) (AV.bool false = v)) (AV.bool false = v)))) := by kernel_rfl
  exact unr_ok hT 100000 _ _ _ _ (e.mpr H)

theorem t18 {v : AV} {s m t : List UInt8} {n : Int} (hT : TabOk cfg (ctab [(10, reqC)])) (H :
    ∃ (s1 : List UInt8), List.length s1 ≤ 100000 ∧ [AV.str s] = [AV.str s1] ∧ ifP (Prod.fst (reqP s1) == m) (ifP (Prod.fst (Prod.snd (reqP s1)) == t) (ifP (Prod.fst (Prod.snd (Prod.snd (reqP s1))) == n) (AV.bool (Prod.snd (Prod.snd (Prod.snd (reqP s1))) == 0) = v) (AV.bool false = v)) (AV.bool false = v)) (AV.bool false = v)) :
    ToEnd cfg 18 (bodyOf Tryd.f18) (RetIs Tryd.prog Tryd.f18 v) ([.code []]) .normal ([(0, true, .str s), (1, true, .str m), (2, true, .str t), (3, true, .int .i64 n)]) ([]) := by
  have e : unr cfg 18 (bodyOf Tryd.f18) (ctab [(10, reqC)]) ⟨[], []⟩ (RetIs Tryd.prog Tryd.f18 v) 100000 ([.code []]) .normal ([(0, true, .str s), (1, true, .str m), (2, true, .str t), (3, true, .int .i64 n)]) ([]) =
    (∃ (s1 : List UInt8), List.length s1 ≤ 100000 ∧ [AV.str s] = [AV.str s1] ∧ ifP (Prod.fst (reqP s1) == m) (ifP (Prod.fst (Prod.snd (reqP s1)) == t) (ifP (Prod.fst (Prod.snd (Prod.snd (reqP s1))) == n) (AV.bool (Prod.snd (Prod.snd (Prod.snd (reqP s1))) == 0) = v) (AV.bool false = v)) (AV.bool false = v)) (AV.bool false = v)) := by kernel_rfl
  exact unr_ok hT 100000 _ _ _ _ (e.mpr H)

theorem t20 {v : AV} {s w : List UInt8} {st n : Int} (hT : TabOk cfg (ctab [(12, stC)])) (H :
    ∃ (s1 : List UInt8), List.length s1 ≤ 100000 ∧ [AV.str s] = [AV.str s1] ∧ ifP (Prod.fst (stP s1) == st) (ifP (Prod.fst (Prod.snd (stP s1)) == w) (ifP (Prod.fst (Prod.snd (Prod.snd (stP s1))) == n) (AV.bool (Prod.snd (Prod.snd (Prod.snd (stP s1))) == 0) = v) (AV.bool false = v)) (AV.bool false = v)) (AV.bool false = v)) :
    ToEnd cfg 20 (bodyOf Tryd.f20) (RetIs Tryd.prog Tryd.f20 v) ([.code []]) .normal ([(0, true, .str s), (1, true, .int .i64 st), (2, true, .str w), (3, true, .int .i64 n)]) ([]) := by
  have e : unr cfg 20 (bodyOf Tryd.f20) (ctab [(12, stC)]) ⟨[], []⟩ (RetIs Tryd.prog Tryd.f20 v) 100000 ([.code []]) .normal ([(0, true, .str s), (1, true, .int .i64 st), (2, true, .str w), (3, true, .int .i64 n)]) ([]) =
    (∃ (s1 : List UInt8), List.length s1 ≤ 100000 ∧ [AV.str s] = [AV.str s1] ∧ ifP (Prod.fst (stP s1) == st) (ifP (Prod.fst (Prod.snd (stP s1)) == w) (ifP (Prod.fst (Prod.snd (Prod.snd (stP s1))) == n) (AV.bool (Prod.snd (Prod.snd (Prod.snd (stP s1))) == 0) = v) (AV.bool false = v)) (AV.bool false = v)) (AV.bool false = v)) := by kernel_rfl
  exact unr_ok hT 100000 _ _ _ _ (e.mpr H)

theorem t7 {v : AV} {a b : List UInt8} {n0 n1 : Int} (hT : TabOk cfg (ctab [(9, Ai.trueC), (10, reqC), (12, stC), (14, putReqC), (16, putStC), (18, asksC), (20, saysC)])) (H :
    ifP (decide ((↑(List.length a) : Int) > 5000)) (true = true ∧ AV.bool true = v)
  (ifP (decide ((↑(List.length b) : Int) > 5000)) (true = true ∧ AV.bool true = v)
    (∃ (a1 : List UInt8),
      ∃ (b2 : List UInt8),
        ∃ (n3 : Int),
          List.length a1 ≤ 10000 ∧
            List.length b2 ≤ 10000 ∧
              (-9223372036854775808 ≤ n3 ∧ n3 ≤ 9223372036854775807) ∧
                [AV.str a, AV.str b, AV.int IntKind.i64 n0] = [AV.str a1, AV.str b2, AV.int IntKind.i64 n3] ∧
                  ∃ (st4 : Int),
                    ∃ (w5 : List UInt8),
                      ∃ (n6 : Int),
                        List.length w5 ≤ 10000 ∧
                          (-9223372036854775808 ≤ st4 ∧ st4 ≤ 9223372036854775807) ∧
                            (-9223372036854775808 ≤ n6 ∧ n6 ≤ 9223372036854775807) ∧
                              [AV.int IntKind.i64 n1, AV.str b, AV.int IntKind.i64 n0] = [AV.int IntKind.i64 st4, AV.str w5, AV.int IntKind.i64 n6] ∧
                                ifP (Prod.snd (putReq a1 b2 n3) == 0) (∃ (s7 : List UInt8), List.length s7 ≤ 100000 ∧ [AV.str (Prod.fst (putReq a1 b2 n3))] = [AV.str s7] ∧ ∃ (s8 : List UInt8), ∃ (m9 : List UInt8), ∃ (t10 : List UInt8), ∃ (n11 : Int), List.length s8 ≤ 100000 ∧ [AV.str (Prod.fst (putReq a1 b2 n3)), AV.str a, AV.str b, AV.int IntKind.i64 n0] = [AV.str s8, AV.str m9, AV.str t10, AV.int IntKind.i64 n11] ∧ ifP (!decide (reqP s8 = (m9, t10, n11, 0))) (AV.bool false = v) (ifP (Prod.snd (Prod.snd (Prod.snd (stP s7))) != 4) (AV.bool false = v) (ifP (decide ((↑(List.length (Prod.fst (putReq a1 b2 n3))) : Int) > 2048)) (AV.bool false = v) (ifP (Prod.snd (putSt st4 w5 n6) == 0) (∃ (s12 : List UInt8), List.length s12 ≤ 100000 ∧ [AV.str (Prod.fst (putSt st4 w5 n6))] = [AV.str s12] ∧ ∃ (s13 : List UInt8), ∃ (w14 : List UInt8), ∃ (st15 : Int), ∃ (n16 : Int), List.length s13 ≤ 100000 ∧ [AV.str (Prod.fst (putSt st4 w5 n6)), AV.int IntKind.i64 n1, AV.str b, AV.int IntKind.i64 n0] = [AV.str s13, AV.int IntKind.i64 st15, AV.str w14, AV.int IntKind.i64 n16] ∧ ifP (!decide (stP s13 = (st15, w14, n16, 0))) (AV.bool false = v) (ifP (Prod.snd (Prod.snd (Prod.snd (reqP s12))) != 4) (ifP (Prod.snd (Prod.snd (Prod.snd (reqP s12))) != 9) (AV.bool false = v) (ifP (decide ((↑(List.length (Prod.fst (putSt st4 w5 n6))) : Int) > 2048)) (AV.bool false = v) (ifP (Prod.snd (putReq a1 b2 n3) == 0) (ifP (Prod.snd (putSt st4 w5 n6) == 0) (true = true ∧ AV.bool true = v) (ifP (Prod.fst (putSt st4 w5 n6) == []) (true = true ∧ AV.bool true = v) (AV.bool false = v))) (ifP (Prod.fst (putReq a1 b2 n3) == []) (ifP (Prod.snd (putSt st4 w5 n6) == 0) (true = true ∧ AV.bool true = v) (ifP (Prod.fst (putSt st4 w5 n6) == []) (true = true ∧ AV.bool true = v) (AV.bool false = v))) (AV.bool false = v))))) (ifP (decide ((↑(List.length (Prod.fst (putSt st4 w5 n6))) : Int) > 2048)) (AV.bool false = v) (ifP (Prod.snd (putReq a1 b2 n3) == 0) (ifP (Prod.snd (putSt st4 w5 n6) == 0) (true = true ∧ AV.bool true = v) (ifP (Prod.fst (putSt st4 w5 n6) == []) (true = true ∧ AV.bool true = v) (AV.bool false = v))) (ifP (Prod.fst (putReq a1 b2 n3) == []) (ifP (Prod.snd (putSt st4 w5 n6) == 0) (true = true ∧ AV.bool true = v) (ifP (Prod.fst (putSt st4 w5 n6) == []) (true = true ∧ AV.bool true = v) (AV.bool false = v))) (AV.bool false = v)))))) (ifP (Prod.snd (putReq a1 b2 n3) == 0) (ifP (Prod.snd (putSt st4 w5 n6) == 0) (true = true ∧ AV.bool true = v) (ifP (Prod.fst (putSt st4 w5 n6) == []) (true = true ∧ AV.bool true = v) (AV.bool false = v))) (ifP (Prod.fst (putReq a1 b2 n3) == []) (ifP (Prod.snd (putSt st4 w5 n6) == 0) (true = true ∧ AV.bool true = v) (ifP (Prod.fst (putSt st4 w5 n6) == []) (true = true ∧ AV.bool true = v) (AV.bool false = v))) (AV.bool false = v)))))))
                                  (ifP (Prod.snd (putSt st4 w5 n6) == 0) (∃ (s17 : List UInt8), List.length s17 ≤ 100000 ∧ [AV.str (Prod.fst (putSt st4 w5 n6))] = [AV.str s17] ∧ ∃ (s18 : List UInt8), ∃ (w19 : List UInt8), ∃ (st20 : Int), ∃ (n21 : Int), List.length s18 ≤ 100000 ∧ [AV.str (Prod.fst (putSt st4 w5 n6)), AV.int IntKind.i64 n1, AV.str b, AV.int IntKind.i64 n0] = [AV.str s18, AV.int IntKind.i64 st20, AV.str w19, AV.int IntKind.i64 n21] ∧ ifP (!decide (stP s18 = (st20, w19, n21, 0))) (AV.bool false = v) (ifP (Prod.snd (Prod.snd (Prod.snd (reqP s17))) != 4) (ifP (Prod.snd (Prod.snd (Prod.snd (reqP s17))) != 9) (AV.bool false = v) (ifP (decide ((↑(List.length (Prod.fst (putSt st4 w5 n6))) : Int) > 2048)) (AV.bool false = v) (ifP (Prod.snd (putReq a1 b2 n3) == 0) (ifP (Prod.snd (putSt st4 w5 n6) == 0) (true = true ∧ AV.bool true = v) (ifP (Prod.fst (putSt st4 w5 n6) == []) (true = true ∧ AV.bool true = v) (AV.bool false = v))) (ifP (Prod.fst (putReq a1 b2 n3) == []) (ifP (Prod.snd (putSt st4 w5 n6) == 0) (true = true ∧ AV.bool true = v) (ifP (Prod.fst (putSt st4 w5 n6) == []) (true = true ∧ AV.bool true = v) (AV.bool false = v))) (AV.bool false = v))))) (ifP (decide ((↑(List.length (Prod.fst (putSt st4 w5 n6))) : Int) > 2048)) (AV.bool false = v) (ifP (Prod.snd (putReq a1 b2 n3) == 0) (ifP (Prod.snd (putSt st4 w5 n6) == 0) (true = true ∧ AV.bool true = v) (ifP (Prod.fst (putSt st4 w5 n6) == []) (true = true ∧ AV.bool true = v) (AV.bool false = v))) (ifP (Prod.fst (putReq a1 b2 n3) == []) (ifP (Prod.snd (putSt st4 w5 n6) == 0) (true = true ∧ AV.bool true = v) (ifP (Prod.fst (putSt st4 w5 n6) == []) (true = true ∧ AV.bool true = v) (AV.bool false = v))) (AV.bool false = v)))))) (ifP (Prod.snd (putReq a1 b2 n3) == 0) (ifP (Prod.snd (putSt st4 w5 n6) == 0) (true = true ∧ AV.bool true = v) (ifP (Prod.fst (putSt st4 w5 n6) == []) (true = true ∧ AV.bool true = v) (AV.bool false = v))) (ifP (Prod.fst (putReq a1 b2 n3) == []) (ifP (Prod.snd (putSt st4 w5 n6) == 0) (true = true ∧ AV.bool true = v) (ifP (Prod.fst (putSt st4 w5 n6) == []) (true = true ∧ AV.bool true = v) (AV.bool false = v))) (AV.bool false = v))))))) :
    ToEnd cfg 7 (bodyOf Tryd.f7) (RetIs Tryd.prog Tryd.f7 v) ([.code []]) .normal ([(0, true, .str a), (1, true, .str b), (2, true, .agg [.int .i64 n0, .int .i64 n1])]) ([]) := by
  have e : unr cfg 7 (bodyOf Tryd.f7) (ctab [(9, Ai.trueC), (10, reqC), (12, stC), (14, putReqC), (16, putStC), (18, asksC), (20, saysC)]) ⟨[], []⟩ (RetIs Tryd.prog Tryd.f7 v) 100000 ([.code []]) .normal ([(0, true, .str a), (1, true, .str b), (2, true, .agg [.int .i64 n0, .int .i64 n1])]) ([]) =
    (ifP (decide ((↑(List.length a) : Int) > 5000)) (true = true ∧ AV.bool true = v)
  (ifP (decide ((↑(List.length b) : Int) > 5000)) (true = true ∧ AV.bool true = v)
    (∃ (a1 : List UInt8),
      ∃ (b2 : List UInt8),
        ∃ (n3 : Int),
          List.length a1 ≤ 10000 ∧
            List.length b2 ≤ 10000 ∧
              (-9223372036854775808 ≤ n3 ∧ n3 ≤ 9223372036854775807) ∧
                [AV.str a, AV.str b, AV.int IntKind.i64 n0] = [AV.str a1, AV.str b2, AV.int IntKind.i64 n3] ∧
                  ∃ (st4 : Int),
                    ∃ (w5 : List UInt8),
                      ∃ (n6 : Int),
                        List.length w5 ≤ 10000 ∧
                          (-9223372036854775808 ≤ st4 ∧ st4 ≤ 9223372036854775807) ∧
                            (-9223372036854775808 ≤ n6 ∧ n6 ≤ 9223372036854775807) ∧
                              [AV.int IntKind.i64 n1, AV.str b, AV.int IntKind.i64 n0] = [AV.int IntKind.i64 st4, AV.str w5, AV.int IntKind.i64 n6] ∧
                                ifP (Prod.snd (putReq a1 b2 n3) == 0) (∃ (s7 : List UInt8), List.length s7 ≤ 100000 ∧ [AV.str (Prod.fst (putReq a1 b2 n3))] = [AV.str s7] ∧ ∃ (s8 : List UInt8), ∃ (m9 : List UInt8), ∃ (t10 : List UInt8), ∃ (n11 : Int), List.length s8 ≤ 100000 ∧ [AV.str (Prod.fst (putReq a1 b2 n3)), AV.str a, AV.str b, AV.int IntKind.i64 n0] = [AV.str s8, AV.str m9, AV.str t10, AV.int IntKind.i64 n11] ∧ ifP (!decide (reqP s8 = (m9, t10, n11, 0))) (AV.bool false = v) (ifP (Prod.snd (Prod.snd (Prod.snd (stP s7))) != 4) (AV.bool false = v) (ifP (decide ((↑(List.length (Prod.fst (putReq a1 b2 n3))) : Int) > 2048)) (AV.bool false = v) (ifP (Prod.snd (putSt st4 w5 n6) == 0) (∃ (s12 : List UInt8), List.length s12 ≤ 100000 ∧ [AV.str (Prod.fst (putSt st4 w5 n6))] = [AV.str s12] ∧ ∃ (s13 : List UInt8), ∃ (w14 : List UInt8), ∃ (st15 : Int), ∃ (n16 : Int), List.length s13 ≤ 100000 ∧ [AV.str (Prod.fst (putSt st4 w5 n6)), AV.int IntKind.i64 n1, AV.str b, AV.int IntKind.i64 n0] = [AV.str s13, AV.int IntKind.i64 st15, AV.str w14, AV.int IntKind.i64 n16] ∧ ifP (!decide (stP s13 = (st15, w14, n16, 0))) (AV.bool false = v) (ifP (Prod.snd (Prod.snd (Prod.snd (reqP s12))) != 4) (ifP (Prod.snd (Prod.snd (Prod.snd (reqP s12))) != 9) (AV.bool false = v) (ifP (decide ((↑(List.length (Prod.fst (putSt st4 w5 n6))) : Int) > 2048)) (AV.bool false = v) (ifP (Prod.snd (putReq a1 b2 n3) == 0) (ifP (Prod.snd (putSt st4 w5 n6) == 0) (true = true ∧ AV.bool true = v) (ifP (Prod.fst (putSt st4 w5 n6) == []) (true = true ∧ AV.bool true = v) (AV.bool false = v))) (ifP (Prod.fst (putReq a1 b2 n3) == []) (ifP (Prod.snd (putSt st4 w5 n6) == 0) (true = true ∧ AV.bool true = v) (ifP (Prod.fst (putSt st4 w5 n6) == []) (true = true ∧ AV.bool true = v) (AV.bool false = v))) (AV.bool false = v))))) (ifP (decide ((↑(List.length (Prod.fst (putSt st4 w5 n6))) : Int) > 2048)) (AV.bool false = v) (ifP (Prod.snd (putReq a1 b2 n3) == 0) (ifP (Prod.snd (putSt st4 w5 n6) == 0) (true = true ∧ AV.bool true = v) (ifP (Prod.fst (putSt st4 w5 n6) == []) (true = true ∧ AV.bool true = v) (AV.bool false = v))) (ifP (Prod.fst (putReq a1 b2 n3) == []) (ifP (Prod.snd (putSt st4 w5 n6) == 0) (true = true ∧ AV.bool true = v) (ifP (Prod.fst (putSt st4 w5 n6) == []) (true = true ∧ AV.bool true = v) (AV.bool false = v))) (AV.bool false = v)))))) (ifP (Prod.snd (putReq a1 b2 n3) == 0) (ifP (Prod.snd (putSt st4 w5 n6) == 0) (true = true ∧ AV.bool true = v) (ifP (Prod.fst (putSt st4 w5 n6) == []) (true = true ∧ AV.bool true = v) (AV.bool false = v))) (ifP (Prod.fst (putReq a1 b2 n3) == []) (ifP (Prod.snd (putSt st4 w5 n6) == 0) (true = true ∧ AV.bool true = v) (ifP (Prod.fst (putSt st4 w5 n6) == []) (true = true ∧ AV.bool true = v) (AV.bool false = v))) (AV.bool false = v)))))))
                                  (ifP (Prod.snd (putSt st4 w5 n6) == 0) (∃ (s17 : List UInt8), List.length s17 ≤ 100000 ∧ [AV.str (Prod.fst (putSt st4 w5 n6))] = [AV.str s17] ∧ ∃ (s18 : List UInt8), ∃ (w19 : List UInt8), ∃ (st20 : Int), ∃ (n21 : Int), List.length s18 ≤ 100000 ∧ [AV.str (Prod.fst (putSt st4 w5 n6)), AV.int IntKind.i64 n1, AV.str b, AV.int IntKind.i64 n0] = [AV.str s18, AV.int IntKind.i64 st20, AV.str w19, AV.int IntKind.i64 n21] ∧ ifP (!decide (stP s18 = (st20, w19, n21, 0))) (AV.bool false = v) (ifP (Prod.snd (Prod.snd (Prod.snd (reqP s17))) != 4) (ifP (Prod.snd (Prod.snd (Prod.snd (reqP s17))) != 9) (AV.bool false = v) (ifP (decide ((↑(List.length (Prod.fst (putSt st4 w5 n6))) : Int) > 2048)) (AV.bool false = v) (ifP (Prod.snd (putReq a1 b2 n3) == 0) (ifP (Prod.snd (putSt st4 w5 n6) == 0) (true = true ∧ AV.bool true = v) (ifP (Prod.fst (putSt st4 w5 n6) == []) (true = true ∧ AV.bool true = v) (AV.bool false = v))) (ifP (Prod.fst (putReq a1 b2 n3) == []) (ifP (Prod.snd (putSt st4 w5 n6) == 0) (true = true ∧ AV.bool true = v) (ifP (Prod.fst (putSt st4 w5 n6) == []) (true = true ∧ AV.bool true = v) (AV.bool false = v))) (AV.bool false = v))))) (ifP (decide ((↑(List.length (Prod.fst (putSt st4 w5 n6))) : Int) > 2048)) (AV.bool false = v) (ifP (Prod.snd (putReq a1 b2 n3) == 0) (ifP (Prod.snd (putSt st4 w5 n6) == 0) (true = true ∧ AV.bool true = v) (ifP (Prod.fst (putSt st4 w5 n6) == []) (true = true ∧ AV.bool true = v) (AV.bool false = v))) (ifP (Prod.fst (putReq a1 b2 n3) == []) (ifP (Prod.snd (putSt st4 w5 n6) == 0) (true = true ∧ AV.bool true = v) (ifP (Prod.fst (putSt st4 w5 n6) == []) (true = true ∧ AV.bool true = v) (AV.bool false = v))) (AV.bool false = v)))))) (ifP (Prod.snd (putReq a1 b2 n3) == 0) (ifP (Prod.snd (putSt st4 w5 n6) == 0) (true = true ∧ AV.bool true = v) (ifP (Prod.fst (putSt st4 w5 n6) == []) (true = true ∧ AV.bool true = v) (AV.bool false = v))) (ifP (Prod.fst (putReq a1 b2 n3) == []) (ifP (Prod.snd (putSt st4 w5 n6) == 0) (true = true ∧ AV.bool true = v) (ifP (Prod.fst (putSt st4 w5 n6) == []) (true = true ∧ AV.bool true = v) (AV.bool false = v))) (AV.bool false = v))))))) := by kernel_rfl
  exact unr_ok hT 100000 _ _ _ _ (e.mpr H)

theorem t8 {v : AV} {s : List UInt8} (hT : TabOk cfg (ctab [(9, Ai.trueC), (10, reqC), (12, stC), (14, putReqC), (16, putStC), (18, asksC), (20, saysC)])) (H :
    ifP (decide ((↑(List.length s) : Int) > 5000)) (true = true ∧ AV.bool true = v)
  (∃ (s1 : List UInt8),
    List.length s1 ≤ 100000 ∧
      [AV.str s] = [AV.str s1] ∧
        ∃ (s2 : List UInt8),
          List.length s2 ≤ 100000 ∧
            [AV.str s] = [AV.str s2] ∧
              ifP (Prod.snd (Prod.snd (Prod.snd (reqP s1))) == 0) (∃ (a3 : List UInt8), ∃ (b4 : List UInt8), ∃ (n5 : Int), List.length a3 ≤ 10000 ∧ List.length b4 ≤ 10000 ∧ (-9223372036854775808 ≤ n5 ∧ n5 ≤ 9223372036854775807) ∧ [AV.str (Prod.fst (reqP s1)), AV.str (Prod.fst (Prod.snd (reqP s1))), AV.int IntKind.i64 (Prod.fst (Prod.snd (Prod.snd (reqP s1))))] = [AV.str a3, AV.str b4, AV.int IntKind.i64 n5] ∧ ifP (Prod.snd (putReq a3 b4 n5) != 0) (AV.bool false = v) (∃ (s6 : List UInt8), ∃ (m7 : List UInt8), ∃ (t8 : List UInt8), ∃ (n9 : Int), List.length s6 ≤ 100000 ∧ [AV.str (Prod.fst (putReq a3 b4 n5)), AV.str (Prod.fst (reqP s1)), AV.str (Prod.fst (Prod.snd (reqP s1))), AV.int IntKind.i64 (Prod.fst (Prod.snd (Prod.snd (reqP s1))))] = [AV.str s6, AV.str m7, AV.str t8, AV.int IntKind.i64 n9] ∧ ifP (!decide (reqP s6 = (m7, t8, n9, 0))) (AV.bool false = v) (ifP ((↑(List.length (Prod.fst (putReq a3 b4 n5))) : Int) != (↑(List.length s) : Int)) (AV.bool false = v) (gAnd (cutOb (List.length (Prod.fst (putReq a3 b4 n5))) none (some (IntKind.wrap IntKind.i64 ((↑(List.length (Prod.fst (putReq a3 b4 n5))) : Int) - 1)))) (gAnd (cutOb (List.length s) none (some (IntKind.wrap IntKind.i64 ((↑(List.length s) : Int) - 1)))) (ifP (!cutL (Prod.fst (putReq a3 b4 n5)) none (some (IntKind.wrap IntKind.i64 ((↑(List.length (Prod.fst (putReq a3 b4 n5))) : Int) - 1))) == cutL s none (some (IntKind.wrap IntKind.i64 ((↑(List.length s) : Int) - 1)))) (AV.bool false = v) (ifP (Prod.snd (Prod.snd (Prod.snd (stP s2))) == 0) (∃ (st10 : Int), ∃ (w11 : List UInt8), ∃ (n12 : Int), List.length w11 ≤ 10000 ∧ (-9223372036854775808 ≤ st10 ∧ st10 ≤ 9223372036854775807) ∧ (-9223372036854775808 ≤ n12 ∧ n12 ≤ 9223372036854775807) ∧ [AV.int IntKind.i64 (Prod.fst (stP s2)), AV.str (Prod.fst (Prod.snd (stP s2))), AV.int IntKind.i64 (Prod.fst (Prod.snd (Prod.snd (stP s2))))] = [AV.int IntKind.i64 st10, AV.str w11, AV.int IntKind.i64 n12] ∧ ifP (Prod.snd (putSt st10 w11 n12) != 0) (AV.bool false = v) (∃ (s13 : List UInt8), ∃ (w14 : List UInt8), ∃ (st15 : Int), ∃ (n16 : Int), List.length s13 ≤ 100000 ∧ [AV.str (Prod.fst (putSt st10 w11 n12)), AV.int IntKind.i64 (Prod.fst (stP s2)), AV.str (Prod.fst (Prod.snd (stP s2))), AV.int IntKind.i64 (Prod.fst (Prod.snd (Prod.snd (stP s2))))] = [AV.str s13, AV.int IntKind.i64 st15, AV.str w14, AV.int IntKind.i64 n16] ∧ ifP (!decide (stP s13 = (st15, w14, n16, 0))) (AV.bool false = v) (ifP ((↑(List.length (Prod.fst (putSt st10 w11 n12))) : Int) != (↑(List.length s) : Int)) (AV.bool false = v) (gAnd (cutOb (List.length (Prod.fst (putSt st10 w11 n12))) (some 8) none) (gAnd (cutOb (List.length s) (some 8) none) (ifP (!cutL (Prod.fst (putSt st10 w11 n12)) (some 8) none == cutL s (some 8) none) (AV.bool false = v) (ifP (Prod.snd (Prod.snd (Prod.snd (reqP s1))) != 0) (true = true ∧ AV.bool true = v) (ifP (Prod.snd (Prod.snd (Prod.snd (stP s2))) != 0) (true = true ∧ AV.bool true = v) (AV.bool false = v))))))))) (ifP (Prod.snd (Prod.snd (Prod.snd (reqP s1))) != 0) (true = true ∧ AV.bool true = v) (ifP (Prod.snd (Prod.snd (Prod.snd (stP s2))) != 0) (true = true ∧ AV.bool true = v) (AV.bool false = v))))))))))
                (ifP (Prod.snd (Prod.snd (Prod.snd (stP s2))) == 0) (∃ (st17 : Int), ∃ (w18 : List UInt8), ∃ (n19 : Int), List.length w18 ≤ 10000 ∧ (-9223372036854775808 ≤ st17 ∧ st17 ≤ 9223372036854775807) ∧ (-9223372036854775808 ≤ n19 ∧ n19 ≤ 9223372036854775807) ∧ [AV.int IntKind.i64 (Prod.fst (stP s2)), AV.str (Prod.fst (Prod.snd (stP s2))), AV.int IntKind.i64 (Prod.fst (Prod.snd (Prod.snd (stP s2))))] = [AV.int IntKind.i64 st17, AV.str w18, AV.int IntKind.i64 n19] ∧ ifP (Prod.snd (putSt st17 w18 n19) != 0) (AV.bool false = v) (∃ (s20 : List UInt8), ∃ (w21 : List UInt8), ∃ (st22 : Int), ∃ (n23 : Int), List.length s20 ≤ 100000 ∧ [AV.str (Prod.fst (putSt st17 w18 n19)), AV.int IntKind.i64 (Prod.fst (stP s2)), AV.str (Prod.fst (Prod.snd (stP s2))), AV.int IntKind.i64 (Prod.fst (Prod.snd (Prod.snd (stP s2))))] = [AV.str s20, AV.int IntKind.i64 st22, AV.str w21, AV.int IntKind.i64 n23] ∧ ifP (!decide (stP s20 = (st22, w21, n23, 0))) (AV.bool false = v) (ifP ((↑(List.length (Prod.fst (putSt st17 w18 n19))) : Int) != (↑(List.length s) : Int)) (AV.bool false = v) (gAnd (cutOb (List.length (Prod.fst (putSt st17 w18 n19))) (some 8) none) (gAnd (cutOb (List.length s) (some 8) none) (ifP (!cutL (Prod.fst (putSt st17 w18 n19)) (some 8) none == cutL s (some 8) none) (AV.bool false = v) (ifP (Prod.snd (Prod.snd (Prod.snd (reqP s1))) != 0) (true = true ∧ AV.bool true = v) (ifP (Prod.snd (Prod.snd (Prod.snd (stP s2))) != 0) (true = true ∧ AV.bool true = v) (AV.bool false = v))))))))) (ifP (Prod.snd (Prod.snd (Prod.snd (reqP s1))) != 0) (true = true ∧ AV.bool true = v) (ifP (Prod.snd (Prod.snd (Prod.snd (stP s2))) != 0) (true = true ∧ AV.bool true = v) (AV.bool false = v)))))) :
    ToEnd cfg 8 (bodyOf Tryd.f8) (RetIs Tryd.prog Tryd.f8 v) ([.code []]) .normal ([(0, true, .str s)]) ([]) := by
  have e : unr cfg 8 (bodyOf Tryd.f8) (ctab [(9, Ai.trueC), (10, reqC), (12, stC), (14, putReqC), (16, putStC), (18, asksC), (20, saysC)]) ⟨[], []⟩ (RetIs Tryd.prog Tryd.f8 v) 100000 ([.code []]) .normal ([(0, true, .str s)]) ([]) =
    (ifP (decide ((↑(List.length s) : Int) > 5000)) (true = true ∧ AV.bool true = v)
  (∃ (s1 : List UInt8),
    List.length s1 ≤ 100000 ∧
      [AV.str s] = [AV.str s1] ∧
        ∃ (s2 : List UInt8),
          List.length s2 ≤ 100000 ∧
            [AV.str s] = [AV.str s2] ∧
              ifP (Prod.snd (Prod.snd (Prod.snd (reqP s1))) == 0) (∃ (a3 : List UInt8), ∃ (b4 : List UInt8), ∃ (n5 : Int), List.length a3 ≤ 10000 ∧ List.length b4 ≤ 10000 ∧ (-9223372036854775808 ≤ n5 ∧ n5 ≤ 9223372036854775807) ∧ [AV.str (Prod.fst (reqP s1)), AV.str (Prod.fst (Prod.snd (reqP s1))), AV.int IntKind.i64 (Prod.fst (Prod.snd (Prod.snd (reqP s1))))] = [AV.str a3, AV.str b4, AV.int IntKind.i64 n5] ∧ ifP (Prod.snd (putReq a3 b4 n5) != 0) (AV.bool false = v) (∃ (s6 : List UInt8), ∃ (m7 : List UInt8), ∃ (t8 : List UInt8), ∃ (n9 : Int), List.length s6 ≤ 100000 ∧ [AV.str (Prod.fst (putReq a3 b4 n5)), AV.str (Prod.fst (reqP s1)), AV.str (Prod.fst (Prod.snd (reqP s1))), AV.int IntKind.i64 (Prod.fst (Prod.snd (Prod.snd (reqP s1))))] = [AV.str s6, AV.str m7, AV.str t8, AV.int IntKind.i64 n9] ∧ ifP (!decide (reqP s6 = (m7, t8, n9, 0))) (AV.bool false = v) (ifP ((↑(List.length (Prod.fst (putReq a3 b4 n5))) : Int) != (↑(List.length s) : Int)) (AV.bool false = v) (gAnd (cutOb (List.length (Prod.fst (putReq a3 b4 n5))) none (some (IntKind.wrap IntKind.i64 ((↑(List.length (Prod.fst (putReq a3 b4 n5))) : Int) - 1)))) (gAnd (cutOb (List.length s) none (some (IntKind.wrap IntKind.i64 ((↑(List.length s) : Int) - 1)))) (ifP (!cutL (Prod.fst (putReq a3 b4 n5)) none (some (IntKind.wrap IntKind.i64 ((↑(List.length (Prod.fst (putReq a3 b4 n5))) : Int) - 1))) == cutL s none (some (IntKind.wrap IntKind.i64 ((↑(List.length s) : Int) - 1)))) (AV.bool false = v) (ifP (Prod.snd (Prod.snd (Prod.snd (stP s2))) == 0) (∃ (st10 : Int), ∃ (w11 : List UInt8), ∃ (n12 : Int), List.length w11 ≤ 10000 ∧ (-9223372036854775808 ≤ st10 ∧ st10 ≤ 9223372036854775807) ∧ (-9223372036854775808 ≤ n12 ∧ n12 ≤ 9223372036854775807) ∧ [AV.int IntKind.i64 (Prod.fst (stP s2)), AV.str (Prod.fst (Prod.snd (stP s2))), AV.int IntKind.i64 (Prod.fst (Prod.snd (Prod.snd (stP s2))))] = [AV.int IntKind.i64 st10, AV.str w11, AV.int IntKind.i64 n12] ∧ ifP (Prod.snd (putSt st10 w11 n12) != 0) (AV.bool false = v) (∃ (s13 : List UInt8), ∃ (w14 : List UInt8), ∃ (st15 : Int), ∃ (n16 : Int), List.length s13 ≤ 100000 ∧ [AV.str (Prod.fst (putSt st10 w11 n12)), AV.int IntKind.i64 (Prod.fst (stP s2)), AV.str (Prod.fst (Prod.snd (stP s2))), AV.int IntKind.i64 (Prod.fst (Prod.snd (Prod.snd (stP s2))))] = [AV.str s13, AV.int IntKind.i64 st15, AV.str w14, AV.int IntKind.i64 n16] ∧ ifP (!decide (stP s13 = (st15, w14, n16, 0))) (AV.bool false = v) (ifP ((↑(List.length (Prod.fst (putSt st10 w11 n12))) : Int) != (↑(List.length s) : Int)) (AV.bool false = v) (gAnd (cutOb (List.length (Prod.fst (putSt st10 w11 n12))) (some 8) none) (gAnd (cutOb (List.length s) (some 8) none) (ifP (!cutL (Prod.fst (putSt st10 w11 n12)) (some 8) none == cutL s (some 8) none) (AV.bool false = v) (ifP (Prod.snd (Prod.snd (Prod.snd (reqP s1))) != 0) (true = true ∧ AV.bool true = v) (ifP (Prod.snd (Prod.snd (Prod.snd (stP s2))) != 0) (true = true ∧ AV.bool true = v) (AV.bool false = v))))))))) (ifP (Prod.snd (Prod.snd (Prod.snd (reqP s1))) != 0) (true = true ∧ AV.bool true = v) (ifP (Prod.snd (Prod.snd (Prod.snd (stP s2))) != 0) (true = true ∧ AV.bool true = v) (AV.bool false = v))))))))))
                (ifP (Prod.snd (Prod.snd (Prod.snd (stP s2))) == 0) (∃ (st17 : Int), ∃ (w18 : List UInt8), ∃ (n19 : Int), List.length w18 ≤ 10000 ∧ (-9223372036854775808 ≤ st17 ∧ st17 ≤ 9223372036854775807) ∧ (-9223372036854775808 ≤ n19 ∧ n19 ≤ 9223372036854775807) ∧ [AV.int IntKind.i64 (Prod.fst (stP s2)), AV.str (Prod.fst (Prod.snd (stP s2))), AV.int IntKind.i64 (Prod.fst (Prod.snd (Prod.snd (stP s2))))] = [AV.int IntKind.i64 st17, AV.str w18, AV.int IntKind.i64 n19] ∧ ifP (Prod.snd (putSt st17 w18 n19) != 0) (AV.bool false = v) (∃ (s20 : List UInt8), ∃ (w21 : List UInt8), ∃ (st22 : Int), ∃ (n23 : Int), List.length s20 ≤ 100000 ∧ [AV.str (Prod.fst (putSt st17 w18 n19)), AV.int IntKind.i64 (Prod.fst (stP s2)), AV.str (Prod.fst (Prod.snd (stP s2))), AV.int IntKind.i64 (Prod.fst (Prod.snd (Prod.snd (stP s2))))] = [AV.str s20, AV.int IntKind.i64 st22, AV.str w21, AV.int IntKind.i64 n23] ∧ ifP (!decide (stP s20 = (st22, w21, n23, 0))) (AV.bool false = v) (ifP ((↑(List.length (Prod.fst (putSt st17 w18 n19))) : Int) != (↑(List.length s) : Int)) (AV.bool false = v) (gAnd (cutOb (List.length (Prod.fst (putSt st17 w18 n19))) (some 8) none) (gAnd (cutOb (List.length s) (some 8) none) (ifP (!cutL (Prod.fst (putSt st17 w18 n19)) (some 8) none == cutL s (some 8) none) (AV.bool false = v) (ifP (Prod.snd (Prod.snd (Prod.snd (reqP s1))) != 0) (true = true ∧ AV.bool true = v) (ifP (Prod.snd (Prod.snd (Prod.snd (stP s2))) != 0) (true = true ∧ AV.bool true = v) (AV.bool false = v))))))))) (ifP (Prod.snd (Prod.snd (Prod.snd (reqP s1))) != 0) (true = true ∧ AV.bool true = v) (ifP (Prod.snd (Prod.snd (Prod.snd (stP s2))) != 0) (true = true ∧ AV.bool true = v) (AV.bool false = v)))))) := by kernel_rfl
  exact unr_ok hT 100000 _ _ _ _ (e.mpr H)

theorem t9 {v : AV}  (hT : TabOk cfg (ctab [(14, putReqC), (18, asksC), (20, saysC)])) (H :
    ∃ (a1 : List UInt8), ∃ (b2 : List UInt8), ∃ (n3 : Int), List.length a1 ≤ 10000 ∧ List.length b2 ≤ 10000 ∧ (-9223372036854775808 ≤ n3 ∧ n3 ≤ 9223372036854775807) ∧ [AV.str [71, 69, 84], AV.str [47, 97], AV.int IntKind.i64 1] = [AV.str a1, AV.str b2, AV.int IntKind.i64 n3] ∧ ∃ (s4 : List UInt8), ∃ (m5 : List UInt8), ∃ (t6 : List UInt8), ∃ (n7 : Int), List.length s4 ≤ 100000 ∧ [AV.str [71, 69, 84, 32, 47, 97, 63, 98, 32, 72, 84, 84, 80, 47, 49, 46, 49], AV.str [71, 69, 84], AV.str [47, 97, 63, 98], AV.int IntKind.i64 1] = [AV.str s4, AV.str m5, AV.str t6, AV.int IntKind.i64 n7] ∧ ifP (decide (reqP s4 = (m5, t6, n7, 0))) (∃ (s8 : List UInt8), ∃ (w9 : List UInt8), ∃ (st10 : Int), ∃ (n11 : Int), List.length s8 ≤ 100000 ∧ [AV.str [72, 84, 84, 80, 47, 49, 46, 49, 32, 50, 48, 48, 32, 79, 75], AV.int IntKind.i64 200, AV.str [79, 75], AV.int IntKind.i64 1] = [AV.str s8, AV.int IntKind.i64 st10, AV.str w9, AV.int IntKind.i64 n11] ∧ ifP (decide (stP s8 = (st10, w9, n11, 0))) (ifP (Prod.fst (putReq a1 b2 n3) == [71, 69, 84, 32, 47, 97, 32, 72, 84, 84, 80, 47, 49, 46, 49]) (AV.bool (Prod.snd (putReq a1 b2 n3) == 0) = v) (AV.bool false = v)) (AV.bool false = v)) (AV.bool false = v)) :
    ToEnd cfg 9 (bodyOf Tryd.f9) (RetIs Tryd.prog Tryd.f9 v) ([.code []]) .normal ([]) ([]) := by
  have e : unr cfg 9 (bodyOf Tryd.f9) (ctab [(14, putReqC), (18, asksC), (20, saysC)]) ⟨[], []⟩ (RetIs Tryd.prog Tryd.f9 v) 100000 ([.code []]) .normal ([]) ([]) =
    (∃ (a1 : List UInt8), ∃ (b2 : List UInt8), ∃ (n3 : Int), List.length a1 ≤ 10000 ∧ List.length b2 ≤ 10000 ∧ (-9223372036854775808 ≤ n3 ∧ n3 ≤ 9223372036854775807) ∧ [AV.str [71, 69, 84], AV.str [47, 97], AV.int IntKind.i64 1] = [AV.str a1, AV.str b2, AV.int IntKind.i64 n3] ∧ ∃ (s4 : List UInt8), ∃ (m5 : List UInt8), ∃ (t6 : List UInt8), ∃ (n7 : Int), List.length s4 ≤ 100000 ∧ [AV.str [71, 69, 84, 32, 47, 97, 63, 98, 32, 72, 84, 84, 80, 47, 49, 46, 49], AV.str [71, 69, 84], AV.str [47, 97, 63, 98], AV.int IntKind.i64 1] = [AV.str s4, AV.str m5, AV.str t6, AV.int IntKind.i64 n7] ∧ ifP (decide (reqP s4 = (m5, t6, n7, 0))) (∃ (s8 : List UInt8), ∃ (w9 : List UInt8), ∃ (st10 : Int), ∃ (n11 : Int), List.length s8 ≤ 100000 ∧ [AV.str [72, 84, 84, 80, 47, 49, 46, 49, 32, 50, 48, 48, 32, 79, 75], AV.int IntKind.i64 200, AV.str [79, 75], AV.int IntKind.i64 1] = [AV.str s8, AV.int IntKind.i64 st10, AV.str w9, AV.int IntKind.i64 n11] ∧ ifP (decide (stP s8 = (st10, w9, n11, 0))) (ifP (Prod.fst (putReq a1 b2 n3) == [71, 69, 84, 32, 47, 97, 32, 72, 84, 84, 80, 47, 49, 46, 49]) (AV.bool (Prod.snd (putReq a1 b2 n3) == 0) = v) (AV.bool false = v)) (AV.bool false = v)) (AV.bool false = v)) := by kernel_rfl
  exact unr_ok hT 100000 _ _ _ _ (e.mpr H)

theorem t19 {v : AV} {s : List UInt8} {w1 w2 : Int} (hT : TabOk cfg (ctab [(10, reqC), (12, stC)])) (H :
    ∃ (s1 : List UInt8), List.length s1 ≤ 100000 ∧ [AV.str s] = [AV.str s1] ∧ ∃ (s2 : List UInt8), List.length s2 ≤ 100000 ∧ [AV.str s] = [AV.str s2] ∧ ifP (Prod.fst (reqP s1) == []) (ifP (Prod.fst (Prod.snd (reqP s1)) == []) (ifP (Prod.fst (Prod.snd (Prod.snd (reqP s1))) == 0) (ifP (Prod.snd (Prod.snd (Prod.snd (reqP s1))) == w1) (ifP (Prod.fst (stP s2) == 0) (ifP (Prod.fst (Prod.snd (stP s2)) == []) (ifP (Prod.fst (Prod.snd (Prod.snd (stP s2))) == 0) (AV.bool (Prod.snd (Prod.snd (Prod.snd (stP s2))) == w2) = v) (AV.bool false = v)) (AV.bool false = v)) (AV.bool false = v)) (AV.bool false = v)) (AV.bool false = v)) (AV.bool false = v)) (AV.bool false = v)) :
    ToEnd cfg 19 (bodyOf Tryd.f19) (RetIs Tryd.prog Tryd.f19 v) ([.code []]) .normal ([(0, true, .str s), (1, true, .int .i64 w1), (2, true, .int .i64 w2)]) ([]) := by
  have e : unr cfg 19 (bodyOf Tryd.f19) (ctab [(10, reqC), (12, stC)]) ⟨[], []⟩ (RetIs Tryd.prog Tryd.f19 v) 100000 ([.code []]) .normal ([(0, true, .str s), (1, true, .int .i64 w1), (2, true, .int .i64 w2)]) ([]) =
    (∃ (s1 : List UInt8), List.length s1 ≤ 100000 ∧ [AV.str s] = [AV.str s1] ∧ ∃ (s2 : List UInt8), List.length s2 ≤ 100000 ∧ [AV.str s] = [AV.str s2] ∧ ifP (Prod.fst (reqP s1) == []) (ifP (Prod.fst (Prod.snd (reqP s1)) == []) (ifP (Prod.fst (Prod.snd (Prod.snd (reqP s1))) == 0) (ifP (Prod.snd (Prod.snd (Prod.snd (reqP s1))) == w1) (ifP (Prod.fst (stP s2) == 0) (ifP (Prod.fst (Prod.snd (stP s2)) == []) (ifP (Prod.fst (Prod.snd (Prod.snd (stP s2))) == 0) (AV.bool (Prod.snd (Prod.snd (Prod.snd (stP s2))) == w2) = v) (AV.bool false = v)) (AV.bool false = v)) (AV.bool false = v)) (AV.bool false = v)) (AV.bool false = v)) (AV.bool false = v)) (AV.bool false = v)) := by kernel_rfl
  exact unr_ok hT 100000 _ _ _ _ (e.mpr H)

end Go.Proofs.YtahojaolkehojaaDoor
end

section
namespace Go.Proofs.YtahojaolkehojaaDoor
open Go.Ai Go
set_option linter.unusedSimpArgs false
set_option linter.unusedVariables false
set_option linter.unnecessarySimpa false
set_option maxRecDepth 100000

theorem pf18 : pureFn cfg 18 Tryd.f18 := ⟨by kernel_rfl, by kernel_rfl, by kernel_rfl, by kernel_rfl, by kernel_rfl, by kernel_rfl⟩
theorem pf20 : pureFn cfg 20 Tryd.f20 := ⟨by kernel_rfl, by kernel_rfl, by kernel_rfl, by kernel_rfl, by kernel_rfl, by kernel_rfl⟩
theorem pf19 : pureFn cfg 19 Tryd.f19 := ⟨by kernel_rfl, by kernel_rfl, by kernel_rfl, by kernel_rfl, by kernel_rfl, by kernel_rfl⟩
theorem pf9 : pureFn cfg 9 Tryd.f9 := ⟨by kernel_rfl, by kernel_rfl, by kernel_rfl, by kernel_rfl, by kernel_rfl, by kernel_rfl⟩
theorem pf3 : pureFn cfg 3 Tryd.f3 := ⟨by kernel_rfl, by kernel_rfl, by kernel_rfl, by kernel_rfl, by kernel_rfl, by kernel_rfl⟩
theorem pf4 : pureFn cfg 4 Tryd.f4 := ⟨by kernel_rfl, by kernel_rfl, by kernel_rfl, by kernel_rfl, by kernel_rfl, by kernel_rfl⟩
theorem pf7 : pureFn cfg 7 Tryd.f7 := ⟨by kernel_rfl, by kernel_rfl, by kernel_rfl, by kernel_rfl, by kernel_rfl, by kernel_rfl⟩
theorem pf8 : pureFn cfg 8 Tryd.f8 := ⟨by kernel_rfl, by kernel_rfl, by kernel_rfl, by kernel_rfl, by kernel_rfl, by kernel_rfl⟩

theorem four {α β γ δ : Type} {p : α × β × γ × δ} {a : α} {b : β} {c : γ} {d : δ} : p = (a, b, c, d) ↔ p.1 = a ∧ p.2.1 = b ∧ p.2.2.1 = c ∧ p.2.2.2 = d := by
  obtain ⟨x, y, z, w⟩ := p
  simp [Prod.mk.injEq]
theorem c18 : COk cfg 18 asksC := by
  refine cok_pure pf18 fun vs h K ht => ?_
  obtain ⟨s, m, t, n, hs, rfl, hk⟩ := ht
  refine ⟨_, hk, t18 (ctab_ok (ctab_cons c10 ctab_nil)) ⟨s, hs, rfl, ?_⟩⟩
  refine ifP_intro (fun a => ifP_intro (fun b => ifP_intro (fun c => ?_) fun c => ?_) fun b => ?_) fun a => ?_
  all_goals
    refine bool_av ?_
    simp only [beq_iff_eq, beq_eq_false_iff_ne, ne_eq, decide_eq_true_eq, four, Bool.false_eq_true, false_iff] at *
    simp [*]
theorem c20 : COk cfg 20 saysC := by
  refine cok_pure pf20 fun vs h K ht => ?_
  obtain ⟨s, w, st, n, hs, rfl, hk⟩ := ht
  refine ⟨_, hk, t20 (ctab_ok (ctab_cons c12 ctab_nil)) ⟨s, hs, rfl, ?_⟩⟩
  refine ifP_intro (fun a => ifP_intro (fun b => ifP_intro (fun c => ?_) fun c => ?_) fun b => ?_) fun a => ?_
  all_goals
    refine bool_av ?_
    simp only [beq_iff_eq, beq_eq_false_iff_ne, ne_eq, decide_eq_true_eq, four, Bool.false_eq_true, false_iff] at *
    simp [*]
theorem c19 : COk cfg 19 noC := by
  refine cok_pure pf19 fun vs h K ht => ?_
  obtain ⟨s, w1, w2, hs, rfl, hk⟩ := ht
  refine ⟨_, hk, t19 (ctab_ok (ctab_cons c10 (ctab_cons c12 ctab_nil))) ⟨s, hs, rfl, s, hs, rfl, ?_⟩⟩
  refine ifP_intro (fun a => ifP_intro (fun b => ifP_intro (fun c => ifP_intro (fun d => ifP_intro (fun e => ifP_intro (fun f => ifP_intro (fun g => ?_) fun g => ?_) fun f => ?_) fun e => ?_) fun d => ?_) fun c => ?_) fun b => ?_) fun a => ?_
  all_goals
    refine bool_av ?_
    simp only [beq_iff_eq, beq_eq_false_iff_ne, ne_eq, decide_eq_true_eq, four, Bool.false_eq_true, false_iff, Bool.and_eq_true] at *
    simp [*]

theorem inInt_of {n : Int} (h0 : 0 ≤ n) (h1 : n ≤ 1) : inInt n := ⟨by omega, by omega⟩
theorem codeN_in {a b c : UInt8} : inInt (codeN [a, b, c]) := by
  have := a.toNat_lt
  have := b.toNat_lt
  have := c.toNat_lt
  unfold inInt codeN
  simp only [List.getD_cons_zero, List.getD_cons_succ]
  omega
theorem awake_req : reqP [71, 69, 84, 32, 47, 97, 63, 98, 32, 72, 84, 84, 80, 47, 49, 46, 49] = ([71, 69, 84], [47, 97, 63, 98], 1, 0) := by decide
theorem awake_st : stP [72, 84, 84, 80, 47, 49, 46, 49, 32, 50, 48, 48, 32, 79, 75] = (200, [79, 75], 1, 0) := by decide
theorem awake_put : putReq [71, 69, 84] [47, 97] 1 = ([71, 69, 84, 32, 47, 97, 32, 72, 84, 84, 80, 47, 49, 46, 49], 0) := by decide
theorem c9 : COk cfg 9 Ai.trueC := by
  refine cok_pure pf9 fun vs h K ht => ?_
  obtain ⟨hv, hk⟩ := ht
  cases vs with
  | cons _ _ => cases hv
  | nil =>
    refine ⟨_, hk, t9 (ctab_ok (ctab_cons c14 (ctab_cons c18 (ctab_cons c20 ctab_nil)))) ⟨_, _, _, by decide, by decide, ⟨by decide, by decide⟩, rfl, _, _, _, _, by decide, rfl, ?_⟩⟩
    rw [awake_req, awake_put]
    exact ifP_intro (fun _ => ⟨_, _, _, _, by decide, rfl, by
      rw [awake_st]
      exact ifP_intro (fun _ => ifP_intro (fun _ => rfl) fun a => absurd a (by decide)) fun a => absurd a (by decide)⟩) fun a => absurd a (by decide)

theorem c3 : COk cfg 3 (fun vs h K => ∃ s : List UInt8, vs = [.str s] ∧ K (.bool true) h) := by
  refine cok_pure pf3 fun vs h K ht => ?_
  obtain ⟨s, rfl, hk⟩ := ht
  refine ⟨_, hk, t3 (ctab_ok (ctab_cons c9 (ctab_cons c10 (ctab_cons c11 (ctab_cons c12 (ctab_cons c13 ctab_nil)))))) (ifP_intro (fun _ => ⟨rfl, rfl⟩) fun a => ?_)⟩
  simp only [decide_eq_false_iff_not] at a
  refine ⟨s, by omega, rfl, s, by omega, rfl, s, by omega, rfl, s, by omega, rfl, ?_⟩
  refine ifP_intro (fun _ => ifP_intro (fun _ => ifP_intro (fun _ => ifP_intro (fun _ => ifP_intro (fun _ => ifP_intro (fun _ => ifP_intro (fun _ => ifP_intro (fun _ => ⟨rfl, rfl⟩) fun b => ?_) fun b => ?_) fun b => ?_) fun b => ?_) fun b => ?_) fun b => ?_) fun b => ?_) fun b => ?_
  all_goals simp at b

theorem c4 : COk cfg 4 (fun vs h K => ∃ (a b : List UInt8) (n0 n1 : Int), inInt n0 ∧ inInt n1 ∧ vs = [.str a, .str b, .agg [.int .i64 n0, .int .i64 n1]] ∧ K (.bool true) h) := by
  refine cok_pure pf4 fun vs h K ht => ?_
  obtain ⟨a, b, n0, n1, h0, h1, rfl, hk⟩ := ht
  refine ⟨_, hk, t4 (ctab_ok (ctab_cons c9 (ctab_cons c14 (ctab_cons c15 (ctab_cons c16 (ctab_cons c17 ctab_nil)))))) (ifP_intro (fun _ => ⟨rfl, rfl⟩) fun p => ifP_intro (fun _ => ⟨rfl, rfl⟩) fun q => ?_)⟩
  simp only [decide_eq_false_iff_not] at p q
  refine ⟨a, b, n0, by omega, by omega, h0, rfl, a, b, n0, by omega, by omega, h0, rfl, n1, b, n0, by omega, h1, h0, rfl, n1, b, n0, by omega, h1, h0, rfl, ?_⟩
  refine ifP_intro (fun _ => ifP_intro (fun _ => ifP_intro (fun _ => ifP_intro (fun _ => ⟨rfl, rfl⟩) fun b => ?_) fun b => ?_) fun b => ?_) fun b => ?_
  all_goals simp at b
end Go.Proofs.YtahojaolkehojaaDoor
end

section
namespace Go.Proofs.YtahojaolkehojaaDoor
open Go.Ai Go
set_option linter.unusedSimpArgs false
set_option linter.unusedVariables false
set_option linter.unnecessarySimpa false
set_option maxRecDepth 100000

theorem tab7 : TabOk cfg (ctab [(9, Ai.trueC), (10, reqC), (12, stC), (14, putReqC), (16, putStC), (18, asksC), (20, saysC)]) :=
  ctab_ok (ctab_cons c9 (ctab_cons c10 (ctab_cons c12 (ctab_cons c14 (ctab_cons c16 (ctab_cons c18 (ctab_cons c20 ctab_nil)))))))
theorem pair_of {p : List UInt8 × Int} (h : p.2 = 0) : p = (p.1, 0) := by
  obtain ⟨a, b⟩ := p
  simp only at h
  rw [h]
theorem c7 : COk cfg 7 (fun vs h K => ∃ (a b : List UInt8) (n0 n1 : Int), inInt n0 ∧ inInt n1 ∧ vs = [.str a, .str b, .agg [.int .i64 n0, .int .i64 n1]] ∧ K (.bool true) h) := by
  refine cok_pure pf7 fun vs h K ht => ?_
  obtain ⟨a, b, n0, n1, h0, h1, rfl, hk⟩ := ht
  refine ⟨_, hk, t7 tab7 (ifP_intro (fun _ => ⟨rfl, rfl⟩) fun p => ifP_intro (fun _ => ⟨rfl, rfl⟩) fun q => ?_)⟩
  simp only [decide_eq_false_iff_not] at p q
  refine ⟨a, b, n0, by omega, by omega, h0, rfl, n1, b, n0, by omega, h1, h0, rfl, ?_⟩
  have f1 : (putReq a b n0).2 = 0 → reqP (putReq a b n0).1 = (a, b, n0, 0) ∧ stP (putReq a b n0).1 = (0, [], 0, 4) ∧ (putReq a b n0).1.length ≤ 2048 := fun h => back_req (pair_of h)
  have f2 : (putReq a b n0).2 ≠ 0 → (putReq a b n0).1 = [] := putReq_err
  have g1 : (putSt n1 b n0).2 = 0 → stP (putSt n1 b n0).1 = (n1, b, n0, 0) ∧ reqP (putSt n1 b n0).1 = ([], [], 0, 4) ∧ (putSt n1 b n0).1.length ≤ 2048 := fun h => back_st (pair_of h)
  have g2 : (putSt n1 b n0).2 ≠ 0 → (putSt n1 b n0).1 = [] := putSt_err
  generalize putReq a b n0 = u at *
  generalize putSt n1 b n0 = w at *
  -- what is said of a reply's line that was put
  have fin : ifP (u.2 == 0) (ifP (w.2 == 0) (true = true ∧ AV.bool true = AV.bool true) (ifP (w.1 == []) (true = true ∧ AV.bool true = AV.bool true) (AV.bool false = AV.bool true))) (ifP (u.1 == []) (ifP (w.2 == 0) (true = true ∧ AV.bool true = AV.bool true) (ifP (w.1 == []) (true = true ∧ AV.bool true = AV.bool true) (AV.bool false = AV.bool true))) (AV.bool false = AV.bool true)) := by
    have hw : ifP (w.2 == 0) (true = true ∧ AV.bool true = AV.bool true) (ifP (w.1 == []) (true = true ∧ AV.bool true = AV.bool true) (AV.bool false = AV.bool true)) := by
      refine ifP_intro (fun _ => ⟨rfl, rfl⟩) fun c => ifP_intro (fun _ => ⟨rfl, rfl⟩) fun d => ?_
      rw [g2 (by simpa using c)] at d; cases d
    refine ifP_intro (fun _ => hw) fun c => ifP_intro (fun _ => hw) fun d => ?_
    rw [f2 (by simpa using c)] at d; cases d
  refine ifP_intro (fun c => ?_) fun c => ?_
  · obtain ⟨q1, q2, q3⟩ := f1 (by simpa using c)
    refine ⟨_, by omega, rfl, _, _, _, _, by omega, rfl, ?_⟩
    rw [q1, q2]
    refine ifP_intro (fun d => absurd d (by simp)) fun _ => ifP_intro (fun d => absurd d (by simp)) fun _ => ifP_intro (fun d => ?_) fun _ => ?_
    · simp only [decide_eq_true_eq] at d; omega
    · refine ifP_intro (fun d => ?_) fun d => fin
      obtain ⟨r1, r2, r3⟩ := g1 (by simpa using d)
      refine ⟨_, by omega, rfl, _, _, _, _, by omega, rfl, ?_⟩
      rw [r1, r2]
      refine ifP_intro (fun e => absurd e (by simp)) fun _ => ifP_intro (fun e => absurd e (by simp)) fun _ => ifP_intro (fun e => ?_) fun _ => fin
      simp only [decide_eq_true_eq] at e; omega
  · refine ifP_intro (fun d => ?_) fun d => fin
    obtain ⟨r1, r2, r3⟩ := g1 (by simpa using d)
    refine ⟨_, by omega, rfl, _, _, _, _, by omega, rfl, ?_⟩
    rw [r1, r2]
    refine ifP_intro (fun e => absurd e (by simp)) fun _ => ifP_intro (fun e => absurd e (by simp)) fun _ => ifP_intro (fun e => ?_) fun _ => fin
    simp only [decide_eq_true_eq] at e; omega

theorem req_not_st {s a b : List UInt8} {c : Int} (h : reqP s = (a, b, c, 0)) : stP s = (0, [], 0, 4) := by
  obtain ⟨hl, hb, h0, h1, v, d, k⟩ := req_read h
  refine st_none (fun v' w c0 c1 c2 x y j => ?_) hl
  have e1 := (req_cuts k).1
  have e2 := (st_cuts j).1
  rw [e1] at e2
  injection e2 with e2 _
  obtain ⟨e3, -, -⟩ := verOf_some j.ver
  have ht := k.tok
  rw [e2, e3] at ht
  revert ht
  simp [tokenB, wordB, marksB]
theorem quad {α β γ δ : Type} (p : α × β × γ × δ) : p = (p.1, p.2.1, p.2.2.1, p.2.2.2) := rfl
theorem c8 : COk cfg 8 (fun vs h K => ∃ s : List UInt8, vs = [.str s] ∧ K (.bool true) h) := by
  refine cok_pure pf8 fun vs h K ht => ?_
  obtain ⟨s, rfl, hk⟩ := ht
  refine ⟨_, hk, t8 tab7 (ifP_intro (fun _ => ⟨rfl, rfl⟩) fun p => ?_)⟩
  simp only [decide_eq_false_iff_not] at p
  refine ⟨s, by omega, rfl, s, by omega, rfl, ?_⟩
  have hq : (reqP s).2.2.2 = 0 → reqP s = ((reqP s).1, (reqP s).2.1, (reqP s).2.2.1, 0) := fun h => by
    have := quad (reqP s)
    rw [h] at this
    exact this
  have hs : (stP s).2.2.2 = 0 → stP s = ((stP s).1, (stP s).2.1, (stP s).2.2.1, 0) := fun h => by
    have := quad (stP s)
    rw [h] at this
    exact this
  refine ifP_intro (fun a => ?_) fun a => ?_
  · have ha := hq (by simpa using a)
    obtain ⟨hl, hb, h0, h1, v, d, k⟩ := req_read ha
    obtain ⟨t, q1, q2, q3, q4⟩ := again_req ha
    have q5 := (back_req q1).1
    have hst := req_not_st ha
    have hal : (reqP s).1.length ≤ s.length := by
      have := congrArg List.length k.eq
      simp at this; omega
    refine ⟨_, _, _, by omega, by omega, ⟨by omega, by omega⟩, rfl, ?_⟩
    rw [q1, hst]
    refine ifP_intro (fun b => by cases b) fun _ => ⟨t, _, _, _, by omega, rfl, ?_⟩
    rw [q5]
    refine ifP_intro (fun b => absurd b (by simp)) fun _ => ifP_intro (fun b => ?_) fun _ => ?_
    · simp only [q2] at b
      simp at b
    · have w1 : IntKind.wrap .i64 ((t.length : Int) - 1) = ((s.length - 1 : Nat) : Int) := by rw [q2, wrap_in (by omega) (by omega)]; omega
      have w2 : IntKind.wrap .i64 ((s.length : Int) - 1) = ((s.length - 1 : Nat) : Int) := by rw [wrap_in (by omega) (by omega)]; omega
      show gAnd (cutOb t.length none (some (IntKind.wrap .i64 ((t.length : Int) - 1)))) _
      rw [w1, w2]
      refine gAnd_intro (by simp [cutOb]; omega) (gAnd_intro (by simp [cutOb]) (ifP_intro (fun b => ?_) fun _ => ?_))
      · have e : cutL t none (some ((s.length - 1 : Nat) : Int)) = cutL s none (some ((s.length - 1 : Nat) : Int)) := by
          show List.take _ t = List.take _ s
          rw [Int.toNat_natCast]; exact q4
        rw [e] at b
        simp at b
      · refine ifP_intro (fun b => by cases b) fun _ => ifP_intro (fun b => ?_) fun _ => ifP_intro (fun _ => ⟨rfl, rfl⟩) fun b => by cases b
        rw [ha] at b
        cases b
  · refine ifP_intro (fun b => ?_) fun b => ?_
    · have hb := hs (by simpa using b)
      obtain ⟨hl, h0, h1, v, c0, c1, c2, d, k, hN⟩ := st_read hb
      obtain ⟨t, q1, q2, q3, q4⟩ := again_st hb
      have q5 := (back_st q1).1
      have hwl : (stP s).2.1.length ≤ s.length := by
        have := congrArg List.length k.eq
        simp at this; omega
      have hin : inInt (stP s).1 := by rw [hN]; exact codeN_in
      refine ⟨_, _, _, by omega, hin, ⟨by omega, by omega⟩, rfl, ?_⟩
      rw [q1]
      refine ifP_intro (fun b => by cases b) fun _ => ⟨t, _, _, _, by omega, rfl, ?_⟩
      rw [q5]
      refine ifP_intro (fun b => absurd b (by simp)) fun _ => ifP_intro (fun b => ?_) fun _ => gAnd_intro (by simp [cutOb]; omega) (gAnd_intro (by simp [cutOb]; omega) (ifP_intro (fun b => ?_) fun _ => ?_))
      · simp only [q2] at b
        simp at b
      · have e : cutL t (some 8) none = cutL s (some 8) none := q4
        rw [e] at b
        simp at b
      · refine ifP_intro (fun _ => ⟨rfl, rfl⟩) fun b => ?_
        have h2 : ¬(reqP s).2.2.2 = 0 := by simpa using a
        exact absurd (by simpa using b) h2
    · refine ifP_intro (fun _ => ⟨rfl, rfl⟩) fun c => ?_
      have h2 : ¬(reqP s).2.2.2 = 0 := by simpa using a
      exact absurd (by simpa using c) h2

def plainS : List TypeId := [3, 9, 33, 41]
theorem plainS_ok : closedT Tryd.prog plainS plainS = true := by kernel_rfl
theorem arg_string {n : Nat} {v : AV} (h : argOf Tryd.prog n 9 v) : ∃ s : List UInt8, s.length ≤ maxLen ∧ v = .str s := by
  cases n with
  | zero => exact False.elim h
  | succ n =>
    have h' : wt Tryd.prog (n + 1) 9 [v] := h
    simp only [wt, Tryd.underlying9] at h'
    obtain ⟨s, h1, h2⟩ := h'
    injection h2 with h2 _
    exact ⟨s, h1, h2⟩
theorem arg_u16 {n : Nat} {v : AV} (h : argOf Tryd.prog n 41 v) : ∃ z : Nat, z < 65536 ∧ v = .int .u16 z := by
  cases n with
  | zero => exact False.elim h
  | succ n =>
    have h' : wt Tryd.prog (n + 1) 41 [v] := h
    simp only [wt, Tryd.underlying41] at h'
    obtain ⟨z, h1, h2⟩ := h'
    injection h2 with h2 _
    have hw : 0 ≤ z ∧ z ≤ 65535 := by simpa [Lit.wf, IntKind.min, IntKind.max, IntKind.signed, IntKind.bits] using h1
    exact ⟨z.toNat, by omega, by rw [h2, Int.toNat_of_nonneg hw.1]⟩
theorem arg_ints {n : Nat} {v : AV} (h : argOf Tryd.prog n 33 v) : ∃ c0 c1 : Int, inInt c0 ∧ inInt c1 ∧ v = .agg [.int .i64 c0, .int .i64 c1] := by
  cases n with
  | zero =>
    obtain ⟨xs, _, h⟩ := (show ∃ xs, v = .agg xs ∧ wt Tryd.prog 0 33 xs from h)
    exact False.elim h
  | succ n =>
    obtain ⟨xs, rfl, h'⟩ := (show ∃ xs, v = .agg xs ∧ wt Tryd.prog (n + 1) 33 xs from h)
    simp only [wt, Tryd.underlying33] at h'
    obtain ⟨yss, hl, hy, rfl⟩ := h'
    have one : ∀ ys ∈ yss, ∃ c : Int, inInt c ∧ ys = [.int .i64 c] := by
      intro ys hm
      have h2 := hy ys hm
      cases n with
      | zero => exact False.elim h2
      | succ n =>
        simp only [wt, Tryd.underlying3] at h2
        obtain ⟨z, k1, k2⟩ := h2
        have hw : -9223372036854775808 ≤ z ∧ z ≤ 9223372036854775807 := by simpa [Lit.wf, IntKind.min, IntKind.max, IntKind.signed, IntKind.bits] using k1
        exact ⟨z, hw, k2⟩
    match yss, hl with
    | [a, b], _ =>
      obtain ⟨c0, q0, rfl⟩ := one a (by simp)
      obtain ⟨c1, q1, rfl⟩ := one b (by simp)
      exact ⟨c0, c1, q0, q1, rfl⟩
end Go.Proofs.YtahojaolkehojaaDoor
end
