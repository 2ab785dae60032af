/-
  Runs of functions of start lines, printed by a home tool; each is the kernel's word.
  LineKnown's contract: the chapter's examples, each settled by evaluation of the reader's law. Printed by a home tool.
-/
import Derived.Test.YtahojaolkehojaaDoorCfg
import Derived.Test.YtahojaolkehojaaDoorJLa
import Derived.Test.YtahojaolkehojaaDoorJLe
section
namespace Go.Proofs.YtahojaolkehojaaDoor
open Go.Ai Go
set_option maxRecDepth 100000
set_option linter.unusedVariables false
/-- So many bytes, all 0. -/
def zerosB (n : Nat) : List UInt8 := List.replicate n 0
theorem t6 {v : AV}  (hT : TabOk cfg (ctab [(9, Ai.trueC), (14, putReqC), (16, putStC), (18, asksC), (19, noC), (20, saysC)])) (H :
    ∃ (s1 : List UInt8),
  ∃ (m2 : List UInt8),
    ∃ (t3 : List UInt8),
      ∃ (n4 : Int),
        List.length s1 ≤ 100000 ∧
          [AV.str [71, 69, 84, 32, 47, 97, 32, 72, 84, 84, 80, 47, 49, 46, 48], AV.str [71, 69, 84], AV.str [47, 97], AV.int IntKind.i64 0] = [AV.str s1, AV.str m2, AV.str t3, AV.int IntKind.i64 n4] ∧
            ifP (!decide (reqP s1 = (m2, t3, n4, 0))) (AV.bool false = v)
              (∃ (s5 : List UInt8),
                ∃ (m6 : List UInt8),
                  ∃ (t7 : List UInt8),
                    ∃ (n8 : Int),
                      List.length s5 ≤ 100000 ∧
                        [AV.str [77, 32, 42, 32, 72, 84, 84, 80, 47, 49, 46, 55], AV.str [77], AV.str [42], AV.int IntKind.i64 1] = [AV.str s5, AV.str m6, AV.str t7, AV.int IntKind.i64 n8] ∧
                          ifP (!decide (reqP s5 = (m6, t7, n8, 0))) (AV.bool false = v)
                            (∃ (s9 : List UInt8),
                              ∃ (w110 : Int),
                                ∃ (w211 : Int),
                                  List.length s9 ≤ 100000 ∧
                                    [AV.str [71, 69, 84, 32, 47, 97, 32, 72, 84, 84, 80, 47, 50, 46, 48], AV.int IntKind.i64 9, AV.int IntKind.i64 4] = [AV.str s9, AV.int IntKind.i64 w110, AV.int IntKind.i64 w211] ∧
                                      ifP (!(decide (reqP s9 = ([], [], 0, w110)) && decide (stP s9 = (0, [], 0, w211)))) (AV.bool false = v)
        (∃ (s12 : List UInt8),
        ∃ (w113 : Int),
        ∃ (w214 : Int),
        List.length s12 ≤ 100000 ∧
        [AV.str [71, 69, 84, 32, 47, 97, 32, 104, 116, 116, 112, 47, 49, 46, 49], AV.int IntKind.i64 4, AV.int IntKind.i64 4] = [AV.str s12, AV.int IntKind.i64 w113, AV.int IntKind.i64 w214] ∧
        ifP (!(decide (reqP s12 = ([], [], 0, w113)) && decide (stP s12 = (0, [], 0, w214)))) (AV.bool false = v)
        (∃ (s15 : List UInt8),
        ∃ (w116 : Int),
        ∃ (w217 : Int),
        List.length s15 ≤ 100000 ∧
        [AV.str [71, 69, 84, 32, 32, 47, 97, 32, 72, 84, 84, 80, 47, 49, 46, 49], AV.int IntKind.i64 4, AV.int IntKind.i64 4] = [AV.str s15, AV.int IntKind.i64 w116, AV.int IntKind.i64 w217] ∧
        ifP (!(decide (reqP s15 = ([], [], 0, w116)) && decide (stP s15 = (0, [], 0, w217)))) (AV.bool false = v)
        (∃ (s18 : List UInt8),
        ∃ (w119 : Int),
        ∃ (w220 : Int),
        List.length s18 ≤ 100000 ∧
        [AV.str [71, 69, 84, 32, 47, 97, 32, 72, 84, 84, 80, 47, 49, 46, 49, 32], AV.int IntKind.i64 4, AV.int IntKind.i64 4] = [AV.str s18, AV.int IntKind.i64 w119, AV.int IntKind.i64 w220] ∧
        ifP (!(decide (reqP s18 = ([], [], 0, w119)) && decide (stP s18 = (0, [], 0, w220)))) (AV.bool false = v)
        (∃ (s21 : List UInt8),
        ∃ (w122 : Int),
        ∃ (w223 : Int),
        List.length s21 ≤ 100000 ∧
        [AV.str [71, 69, 84, 32, 47, 97], AV.int IntKind.i64 4, AV.int IntKind.i64 4] = [AV.str s21, AV.int IntKind.i64 w122, AV.int IntKind.i64 w223] ∧
        ifP (!(decide (reqP s21 = ([], [], 0, w122)) && decide (stP s21 = (0, [], 0, w223)))) (AV.bool false = v)
        (∃ (s24 : List UInt8),
        ∃ (w125 : Int),
        ∃ (w226 : Int),
        List.length s24 ≤ 100000 ∧
        [AV.str [71, 69, 84, 32, 47, 97, 32, 72, 84, 84, 80, 47, 49, 49], AV.int IntKind.i64 4, AV.int IntKind.i64 4] = [AV.str s24, AV.int IntKind.i64 w125, AV.int IntKind.i64 w226] ∧
        ifP (!(decide (reqP s24 = ([], [], 0, w125)) && decide (stP s24 = (0, [], 0, w226)))) (AV.bool false = v)
        (∃ (s27 : List UInt8),
        ∃ (w128 : Int),
        ∃ (w229 : Int),
        List.length s27 ≤ 100000 ∧
        [AV.str [], AV.int IntKind.i64 4, AV.int IntKind.i64 4] = [AV.str s27, AV.int IntKind.i64 w128, AV.int IntKind.i64 w229] ∧
        ifP (!(decide (reqP s27 = ([], [], 0, w128)) && decide (stP s27 = (0, [], 0, w229)))) (AV.bool false = v)
        (∃ (s30 : List UInt8),
        ∃ (w131 : Int),
        ∃ (w232 : Int),
        List.length s30 ≤ 100000 ∧
        [AV.str [71, 69, 84, 32, 32, 72, 84, 84, 80, 47, 49, 46, 49], AV.int IntKind.i64 4, AV.int IntKind.i64 4] = [AV.str s30, AV.int IntKind.i64 w131, AV.int IntKind.i64 w232] ∧
        ifP (!(decide (reqP s30 = ([], [], 0, w131)) && decide (stP s30 = (0, [], 0, w232)))) (AV.bool false = v)
        (∃ (s33 : List UInt8),
        ∃ (w134 : Int),
        ∃ (w235 : Int),
        List.length s33 ≤ 100000 ∧
        [AV.str [71, 40, 84, 32, 47, 97, 32, 72, 84, 84, 80, 47, 50, 46, 49], AV.int IntKind.i64 4, AV.int IntKind.i64 4] = [AV.str s33, AV.int IntKind.i64 w134, AV.int IntKind.i64 w235] ∧
        ifP (!(decide (reqP s33 = ([], [], 0, w134)) && decide (stP s33 = (0, [], 0, w235)))) (AV.bool false = v)
        (∃ (s36 : List UInt8),
        ∃ (w37 : List UInt8),
        ∃ (st38 : Int),
        ∃ (n39 : Int),
        List.length s36 ≤ 100000 ∧
        [AV.str [72, 84, 84, 80, 47, 49, 46, 49, 32, 52, 48, 52, 32], AV.int IntKind.i64 404, AV.str [], AV.int IntKind.i64 1] = [AV.str s36, AV.int IntKind.i64 st38, AV.str w37, AV.int IntKind.i64 n39] ∧
        ifP (!decide (stP s36 = (st38, w37, n39, 0))) (AV.bool false = v)
        (∃ (s40 : List UInt8),
        ∃ (w141 : Int),
        ∃ (w242 : Int),
        List.length s40 ≤ 100000 ∧
        [AV.str [72, 84, 84, 80, 47, 49, 46, 49, 32, 52, 48, 52], AV.int IntKind.i64 4, AV.int IntKind.i64 4] = [AV.str s40, AV.int IntKind.i64 w141, AV.int IntKind.i64 w242] ∧
        ifP (!(decide (reqP s40 = ([], [], 0, w141)) && decide (stP s40 = (0, [], 0, w242)))) (AV.bool false = v)
        (∃ (s43 : List UInt8),
        ∃ (w144 : Int),
        ∃ (w245 : Int),
        List.length s43 ≤ 100000 ∧
        [AV.str [72, 84, 84, 80, 47, 49, 46, 49, 32, 54, 48, 48, 32, 120], AV.int IntKind.i64 4, AV.int IntKind.i64 4] = [AV.str s43, AV.int IntKind.i64 w144, AV.int IntKind.i64 w245] ∧
        ifP (!(decide (reqP s43 = ([], [], 0, w144)) && decide (stP s43 = (0, [], 0, w245)))) (AV.bool false = v)
        (∃ (s46 : List UInt8),
        ∃ (w147 : Int),
        ∃ (w248 : Int),
        List.length s46 ≤ 100000 ∧
        [AV.str [72, 84, 84, 80, 47, 48, 46, 57, 32, 50, 48, 48, 32, 79, 75], AV.int IntKind.i64 4, AV.int IntKind.i64 9] = [AV.str s46, AV.int IntKind.i64 w147, AV.int IntKind.i64 w248] ∧
        ifP (!(decide (reqP s46 = ([], [], 0, w147)) && decide (stP s46 = (0, [], 0, w248)))) (AV.bool false = v)
        (∃ (s49 : List UInt8),
        ∃ (w50 : List UInt8),
        ∃ (st51 : Int),
        ∃ (n52 : Int),
        List.length s49 ≤ 100000 ∧
        [AV.str [72, 84, 84, 80, 47, 49, 46, 48, 32, 49, 48, 48, 32, 128, 9, 120], AV.int IntKind.i64 100, AV.str [128, 9, 120], AV.int IntKind.i64 0] = [AV.str s49, AV.int IntKind.i64 st51, AV.str w50, AV.int IntKind.i64 n52] ∧
        ifP (!decide (stP s49 = (st51, w50, n52, 0))) (AV.bool false = v)
        (∃ (s53 : List UInt8),
        ∃ (w154 : Int),
        ∃ (w255 : Int),
        List.length s53 ≤ 100000 ∧
        [AV.str [72, 84, 84, 80, 47, 49, 46, 49, 32, 50, 48, 48, 32, 127], AV.int IntKind.i64 4, AV.int IntKind.i64 4] = [AV.str s53, AV.int IntKind.i64 w154, AV.int IntKind.i64 w255] ∧
        ifP (!(decide (reqP s53 = ([], [], 0, w154)) && decide (stP s53 = (0, [], 0, w255)))) (AV.bool false = v)
        (∃ (s56 : List UInt8),
        ∃ (w157 : Int),
        ∃ (w258 : Int),
        List.length s56 ≤ 100000 ∧
        [AV.str [72, 84, 84, 80, 47, 49, 46, 49, 32, 50, 48, 32, 79, 75], AV.int IntKind.i64 4, AV.int IntKind.i64 4] = [AV.str s56, AV.int IntKind.i64 w157, AV.int IntKind.i64 w258] ∧
        ifP (!(decide (reqP s56 = ([], [], 0, w157)) && decide (stP s56 = (0, [], 0, w258)))) (AV.bool false = v)
        (∃ (s59 : List UInt8),
        ∃ (w160 : Int),
        ∃ (w261 : Int),
        List.length s59 ≤ 100000 ∧
        [AV.str [72, 84, 84, 80, 47, 49, 46, 49, 32, 32, 50, 48, 48, 32, 79, 75], AV.int IntKind.i64 4, AV.int IntKind.i64 4] = [AV.str s59, AV.int IntKind.i64 w160, AV.int IntKind.i64 w261] ∧
        ifP (!(decide (reqP s59 = ([], [], 0, w160)) && decide (stP s59 = (0, [], 0, w261)))) (AV.bool false = v)
        (∃ (a62 : List UInt8),
        ∃ (b63 : List UInt8),
        ∃ (n64 : Int),
        List.length a62 ≤ 10000 ∧
        List.length b63 ≤ 10000 ∧
        (-9223372036854775808 ≤ n64 ∧ n64 ≤ 9223372036854775807) ∧
        [AV.str [71, 32, 84], AV.str [47, 97], AV.int IntKind.i64 1] = [AV.str a62, AV.str b63, AV.int IntKind.i64 n64] ∧
        ∃ (a65 : List UInt8),
        ∃ (b66 : List UInt8),
        ∃ (n67 : Int),
        List.length a65 ≤ 10000 ∧
        List.length b66 ≤ 10000 ∧
        (-9223372036854775808 ≤ n67 ∧ n67 ≤ 9223372036854775807) ∧
        [AV.str [71, 69, 84], AV.str [], AV.int IntKind.i64 1] = [AV.str a65, AV.str b66, AV.int IntKind.i64 n67] ∧
        ∃ (a68 : List UInt8),
        ∃ (b69 : List UInt8),
        ∃ (n70 : Int),
        List.length a68 ≤ 10000 ∧
        List.length b69 ≤ 10000 ∧
        (-9223372036854775808 ≤ n70 ∧ n70 ≤ 9223372036854775807) ∧
        [AV.str [71, 69, 84], AV.str [47, 97], AV.int IntKind.i64 2] = [AV.str a68, AV.str b69, AV.int IntKind.i64 n70] ∧
        ∃ (st71 : Int),
        ∃ (w72 : List UInt8),
        ∃ (n73 : Int),
        List.length w72 ≤ 10000 ∧
        (-9223372036854775808 ≤ st71 ∧ st71 ≤ 9223372036854775807) ∧
        (-9223372036854775808 ≤ n73 ∧ n73 ≤ 9223372036854775807) ∧
        [AV.int IntKind.i64 304, AV.str [], AV.int IntKind.i64 0] = [AV.int IntKind.i64 st71, AV.str w72, AV.int IntKind.i64 n73] ∧
        ∃ (st74 : Int),
        ∃ (w75 : List UInt8),
        ∃ (n76 : Int),
        List.length w75 ≤ 10000 ∧
        (-9223372036854775808 ≤ st74 ∧ st74 ≤ 9223372036854775807) ∧
        (-9223372036854775808 ≤ n76 ∧ n76 ≤ 9223372036854775807) ∧
        [AV.int IntKind.i64 99, AV.str [120], AV.int IntKind.i64 1] = [AV.int IntKind.i64 st74, AV.str w75, AV.int IntKind.i64 n76] ∧
        ∃ (st77 : Int),
        ∃ (w78 : List UInt8),
        ∃ (n79 : Int),
        List.length w78 ≤ 10000 ∧
        (-9223372036854775808 ≤ st77 ∧ st77 ≤ 9223372036854775807) ∧
        (-9223372036854775808 ≤ n79 ∧ n79 ≤ 9223372036854775807) ∧
        [AV.int IntKind.i64 200, AV.str [10], AV.int IntKind.i64 1] = [AV.int IntKind.i64 st77, AV.str w78, AV.int IntKind.i64 n79] ∧
        ∃ (st80 : Int),
        ∃ (w81 : List UInt8),
        ∃ (n82 : Int),
        List.length w81 ≤ 10000 ∧
        (-9223372036854775808 ≤ st80 ∧ st80 ≤ 9223372036854775807) ∧
        (-9223372036854775808 ≤ n82 ∧ n82 ≤ 9223372036854775807) ∧
        [AV.int IntKind.i64 600, AV.str [120], AV.int IntKind.i64 1] = [AV.int IntKind.i64 st80, AV.str w81, AV.int IntKind.i64 n82] ∧
        ∃ (st83 : Int),
        ∃ (w84 : List UInt8),
        ∃ (n85 : Int),
        List.length w84 ≤ 10000 ∧
        (-9223372036854775808 ≤ st83 ∧ st83 ≤ 9223372036854775807) ∧
        (-9223372036854775808 ≤ n85 ∧ n85 ≤ 9223372036854775807) ∧
        [AV.int IntKind.i64 200, AV.str [120], AV.int IntKind.i64 (-1)] = [AV.int IntKind.i64 st83, AV.str w84, AV.int IntKind.i64 n85] ∧
        ifP (Prod.snd (putReq a62 b63 n64) == 4)
        (ifP (Prod.snd (putReq a65 b66 n67) == 4)
        (ifP (Prod.snd (putReq a68 b69 n70) == 4)
        (ifP (Prod.fst (putSt st71 w72 n73) == [72, 84, 84, 80, 47, 49, 46, 48, 32, 51, 48, 52, 32])
        (ifP (Prod.snd (putSt st71 w72 n73) == 0)
        (ifP (Prod.snd (putSt st74 w75 n76) == 4)
        (ifP (Prod.snd (putSt st77 w78 n79) == 4)
        (ifP (Prod.snd (putSt st80 w81 n82) == 4)
        (ifP (Prod.snd (putSt st83 w84 n85) == 4)
        (∃ (s86 : List UInt8),
        ∃ (w187 : Int),
        ∃ (w288 : Int),
        List.length s86 ≤ 100000 ∧
        [AV.str
        (zerosB 2049),
        AV.int IntKind.i64 3, AV.int IntKind.i64 3] =
        [AV.str s86, AV.int IntKind.i64 w187, AV.int IntKind.i64 w288] ∧
        ifP (decide (reqP s86 = ([], [], 0, w187)) && decide (stP s86 = (0, [], 0, w288))) (true = true ∧ AV.bool true = v) (AV.bool false = v))
        (AV.bool false = v))
        (AV.bool false = v))
        (AV.bool false = v))
        (AV.bool false = v))
        (AV.bool false = v))
        (AV.bool false = v))
        (AV.bool false = v))
        (AV.bool false = v))
        (AV.bool false = v))))))))))))))))))))) :
    ToEnd cfg 6 (bodyOf Tryd.f6) (RetIs Tryd.prog Tryd.f6 v) ([.code []]) .normal ([]) ([]) := by
  have e : unr cfg 6 (bodyOf Tryd.f6) (ctab [(9, Ai.trueC), (14, putReqC), (16, putStC), (18, asksC), (19, noC), (20, saysC)]) ⟨[], []⟩ (RetIs Tryd.prog Tryd.f6 v) 100000 ([.code []]) .normal ([]) ([]) =
    (∃ (s1 : List UInt8),
  ∃ (m2 : List UInt8),
    ∃ (t3 : List UInt8),
      ∃ (n4 : Int),
        List.length s1 ≤ 100000 ∧
          [AV.str [71, 69, 84, 32, 47, 97, 32, 72, 84, 84, 80, 47, 49, 46, 48], AV.str [71, 69, 84], AV.str [47, 97], AV.int IntKind.i64 0] = [AV.str s1, AV.str m2, AV.str t3, AV.int IntKind.i64 n4] ∧
            ifP (!decide (reqP s1 = (m2, t3, n4, 0))) (AV.bool false = v)
              (∃ (s5 : List UInt8),
                ∃ (m6 : List UInt8),
                  ∃ (t7 : List UInt8),
                    ∃ (n8 : Int),
                      List.length s5 ≤ 100000 ∧
                        [AV.str [77, 32, 42, 32, 72, 84, 84, 80, 47, 49, 46, 55], AV.str [77], AV.str [42], AV.int IntKind.i64 1] = [AV.str s5, AV.str m6, AV.str t7, AV.int IntKind.i64 n8] ∧
                          ifP (!decide (reqP s5 = (m6, t7, n8, 0))) (AV.bool false = v)
                            (∃ (s9 : List UInt8),
                              ∃ (w110 : Int),
                                ∃ (w211 : Int),
                                  List.length s9 ≤ 100000 ∧
                                    [AV.str [71, 69, 84, 32, 47, 97, 32, 72, 84, 84, 80, 47, 50, 46, 48], AV.int IntKind.i64 9, AV.int IntKind.i64 4] = [AV.str s9, AV.int IntKind.i64 w110, AV.int IntKind.i64 w211] ∧
                                      ifP (!(decide (reqP s9 = ([], [], 0, w110)) && decide (stP s9 = (0, [], 0, w211)))) (AV.bool false = v)
        (∃ (s12 : List UInt8),
        ∃ (w113 : Int),
        ∃ (w214 : Int),
        List.length s12 ≤ 100000 ∧
        [AV.str [71, 69, 84, 32, 47, 97, 32, 104, 116, 116, 112, 47, 49, 46, 49], AV.int IntKind.i64 4, AV.int IntKind.i64 4] = [AV.str s12, AV.int IntKind.i64 w113, AV.int IntKind.i64 w214] ∧
        ifP (!(decide (reqP s12 = ([], [], 0, w113)) && decide (stP s12 = (0, [], 0, w214)))) (AV.bool false = v)
        (∃ (s15 : List UInt8),
        ∃ (w116 : Int),
        ∃ (w217 : Int),
        List.length s15 ≤ 100000 ∧
        [AV.str [71, 69, 84, 32, 32, 47, 97, 32, 72, 84, 84, 80, 47, 49, 46, 49], AV.int IntKind.i64 4, AV.int IntKind.i64 4] = [AV.str s15, AV.int IntKind.i64 w116, AV.int IntKind.i64 w217] ∧
        ifP (!(decide (reqP s15 = ([], [], 0, w116)) && decide (stP s15 = (0, [], 0, w217)))) (AV.bool false = v)
        (∃ (s18 : List UInt8),
        ∃ (w119 : Int),
        ∃ (w220 : Int),
        List.length s18 ≤ 100000 ∧
        [AV.str [71, 69, 84, 32, 47, 97, 32, 72, 84, 84, 80, 47, 49, 46, 49, 32], AV.int IntKind.i64 4, AV.int IntKind.i64 4] = [AV.str s18, AV.int IntKind.i64 w119, AV.int IntKind.i64 w220] ∧
        ifP (!(decide (reqP s18 = ([], [], 0, w119)) && decide (stP s18 = (0, [], 0, w220)))) (AV.bool false = v)
        (∃ (s21 : List UInt8),
        ∃ (w122 : Int),
        ∃ (w223 : Int),
        List.length s21 ≤ 100000 ∧
        [AV.str [71, 69, 84, 32, 47, 97], AV.int IntKind.i64 4, AV.int IntKind.i64 4] = [AV.str s21, AV.int IntKind.i64 w122, AV.int IntKind.i64 w223] ∧
        ifP (!(decide (reqP s21 = ([], [], 0, w122)) && decide (stP s21 = (0, [], 0, w223)))) (AV.bool false = v)
        (∃ (s24 : List UInt8),
        ∃ (w125 : Int),
        ∃ (w226 : Int),
        List.length s24 ≤ 100000 ∧
        [AV.str [71, 69, 84, 32, 47, 97, 32, 72, 84, 84, 80, 47, 49, 49], AV.int IntKind.i64 4, AV.int IntKind.i64 4] = [AV.str s24, AV.int IntKind.i64 w125, AV.int IntKind.i64 w226] ∧
        ifP (!(decide (reqP s24 = ([], [], 0, w125)) && decide (stP s24 = (0, [], 0, w226)))) (AV.bool false = v)
        (∃ (s27 : List UInt8),
        ∃ (w128 : Int),
        ∃ (w229 : Int),
        List.length s27 ≤ 100000 ∧
        [AV.str [], AV.int IntKind.i64 4, AV.int IntKind.i64 4] = [AV.str s27, AV.int IntKind.i64 w128, AV.int IntKind.i64 w229] ∧
        ifP (!(decide (reqP s27 = ([], [], 0, w128)) && decide (stP s27 = (0, [], 0, w229)))) (AV.bool false = v)
        (∃ (s30 : List UInt8),
        ∃ (w131 : Int),
        ∃ (w232 : Int),
        List.length s30 ≤ 100000 ∧
        [AV.str [71, 69, 84, 32, 32, 72, 84, 84, 80, 47, 49, 46, 49], AV.int IntKind.i64 4, AV.int IntKind.i64 4] = [AV.str s30, AV.int IntKind.i64 w131, AV.int IntKind.i64 w232] ∧
        ifP (!(decide (reqP s30 = ([], [], 0, w131)) && decide (stP s30 = (0, [], 0, w232)))) (AV.bool false = v)
        (∃ (s33 : List UInt8),
        ∃ (w134 : Int),
        ∃ (w235 : Int),
        List.length s33 ≤ 100000 ∧
        [AV.str [71, 40, 84, 32, 47, 97, 32, 72, 84, 84, 80, 47, 50, 46, 49], AV.int IntKind.i64 4, AV.int IntKind.i64 4] = [AV.str s33, AV.int IntKind.i64 w134, AV.int IntKind.i64 w235] ∧
        ifP (!(decide (reqP s33 = ([], [], 0, w134)) && decide (stP s33 = (0, [], 0, w235)))) (AV.bool false = v)
        (∃ (s36 : List UInt8),
        ∃ (w37 : List UInt8),
        ∃ (st38 : Int),
        ∃ (n39 : Int),
        List.length s36 ≤ 100000 ∧
        [AV.str [72, 84, 84, 80, 47, 49, 46, 49, 32, 52, 48, 52, 32], AV.int IntKind.i64 404, AV.str [], AV.int IntKind.i64 1] = [AV.str s36, AV.int IntKind.i64 st38, AV.str w37, AV.int IntKind.i64 n39] ∧
        ifP (!decide (stP s36 = (st38, w37, n39, 0))) (AV.bool false = v)
        (∃ (s40 : List UInt8),
        ∃ (w141 : Int),
        ∃ (w242 : Int),
        List.length s40 ≤ 100000 ∧
        [AV.str [72, 84, 84, 80, 47, 49, 46, 49, 32, 52, 48, 52], AV.int IntKind.i64 4, AV.int IntKind.i64 4] = [AV.str s40, AV.int IntKind.i64 w141, AV.int IntKind.i64 w242] ∧
        ifP (!(decide (reqP s40 = ([], [], 0, w141)) && decide (stP s40 = (0, [], 0, w242)))) (AV.bool false = v)
        (∃ (s43 : List UInt8),
        ∃ (w144 : Int),
        ∃ (w245 : Int),
        List.length s43 ≤ 100000 ∧
        [AV.str [72, 84, 84, 80, 47, 49, 46, 49, 32, 54, 48, 48, 32, 120], AV.int IntKind.i64 4, AV.int IntKind.i64 4] = [AV.str s43, AV.int IntKind.i64 w144, AV.int IntKind.i64 w245] ∧
        ifP (!(decide (reqP s43 = ([], [], 0, w144)) && decide (stP s43 = (0, [], 0, w245)))) (AV.bool false = v)
        (∃ (s46 : List UInt8),
        ∃ (w147 : Int),
        ∃ (w248 : Int),
        List.length s46 ≤ 100000 ∧
        [AV.str [72, 84, 84, 80, 47, 48, 46, 57, 32, 50, 48, 48, 32, 79, 75], AV.int IntKind.i64 4, AV.int IntKind.i64 9] = [AV.str s46, AV.int IntKind.i64 w147, AV.int IntKind.i64 w248] ∧
        ifP (!(decide (reqP s46 = ([], [], 0, w147)) && decide (stP s46 = (0, [], 0, w248)))) (AV.bool false = v)
        (∃ (s49 : List UInt8),
        ∃ (w50 : List UInt8),
        ∃ (st51 : Int),
        ∃ (n52 : Int),
        List.length s49 ≤ 100000 ∧
        [AV.str [72, 84, 84, 80, 47, 49, 46, 48, 32, 49, 48, 48, 32, 128, 9, 120], AV.int IntKind.i64 100, AV.str [128, 9, 120], AV.int IntKind.i64 0] = [AV.str s49, AV.int IntKind.i64 st51, AV.str w50, AV.int IntKind.i64 n52] ∧
        ifP (!decide (stP s49 = (st51, w50, n52, 0))) (AV.bool false = v)
        (∃ (s53 : List UInt8),
        ∃ (w154 : Int),
        ∃ (w255 : Int),
        List.length s53 ≤ 100000 ∧
        [AV.str [72, 84, 84, 80, 47, 49, 46, 49, 32, 50, 48, 48, 32, 127], AV.int IntKind.i64 4, AV.int IntKind.i64 4] = [AV.str s53, AV.int IntKind.i64 w154, AV.int IntKind.i64 w255] ∧
        ifP (!(decide (reqP s53 = ([], [], 0, w154)) && decide (stP s53 = (0, [], 0, w255)))) (AV.bool false = v)
        (∃ (s56 : List UInt8),
        ∃ (w157 : Int),
        ∃ (w258 : Int),
        List.length s56 ≤ 100000 ∧
        [AV.str [72, 84, 84, 80, 47, 49, 46, 49, 32, 50, 48, 32, 79, 75], AV.int IntKind.i64 4, AV.int IntKind.i64 4] = [AV.str s56, AV.int IntKind.i64 w157, AV.int IntKind.i64 w258] ∧
        ifP (!(decide (reqP s56 = ([], [], 0, w157)) && decide (stP s56 = (0, [], 0, w258)))) (AV.bool false = v)
        (∃ (s59 : List UInt8),
        ∃ (w160 : Int),
        ∃ (w261 : Int),
        List.length s59 ≤ 100000 ∧
        [AV.str [72, 84, 84, 80, 47, 49, 46, 49, 32, 32, 50, 48, 48, 32, 79, 75], AV.int IntKind.i64 4, AV.int IntKind.i64 4] = [AV.str s59, AV.int IntKind.i64 w160, AV.int IntKind.i64 w261] ∧
        ifP (!(decide (reqP s59 = ([], [], 0, w160)) && decide (stP s59 = (0, [], 0, w261)))) (AV.bool false = v)
        (∃ (a62 : List UInt8),
        ∃ (b63 : List UInt8),
        ∃ (n64 : Int),
        List.length a62 ≤ 10000 ∧
        List.length b63 ≤ 10000 ∧
        (-9223372036854775808 ≤ n64 ∧ n64 ≤ 9223372036854775807) ∧
        [AV.str [71, 32, 84], AV.str [47, 97], AV.int IntKind.i64 1] = [AV.str a62, AV.str b63, AV.int IntKind.i64 n64] ∧
        ∃ (a65 : List UInt8),
        ∃ (b66 : List UInt8),
        ∃ (n67 : Int),
        List.length a65 ≤ 10000 ∧
        List.length b66 ≤ 10000 ∧
        (-9223372036854775808 ≤ n67 ∧ n67 ≤ 9223372036854775807) ∧
        [AV.str [71, 69, 84], AV.str [], AV.int IntKind.i64 1] = [AV.str a65, AV.str b66, AV.int IntKind.i64 n67] ∧
        ∃ (a68 : List UInt8),
        ∃ (b69 : List UInt8),
        ∃ (n70 : Int),
        List.length a68 ≤ 10000 ∧
        List.length b69 ≤ 10000 ∧
        (-9223372036854775808 ≤ n70 ∧ n70 ≤ 9223372036854775807) ∧
        [AV.str [71, 69, 84], AV.str [47, 97], AV.int IntKind.i64 2] = [AV.str a68, AV.str b69, AV.int IntKind.i64 n70] ∧
        ∃ (st71 : Int),
        ∃ (w72 : List UInt8),
        ∃ (n73 : Int),
        List.length w72 ≤ 10000 ∧
        (-9223372036854775808 ≤ st71 ∧ st71 ≤ 9223372036854775807) ∧
        (-9223372036854775808 ≤ n73 ∧ n73 ≤ 9223372036854775807) ∧
        [AV.int IntKind.i64 304, AV.str [], AV.int IntKind.i64 0] = [AV.int IntKind.i64 st71, AV.str w72, AV.int IntKind.i64 n73] ∧
        ∃ (st74 : Int),
        ∃ (w75 : List UInt8),
        ∃ (n76 : Int),
        List.length w75 ≤ 10000 ∧
        (-9223372036854775808 ≤ st74 ∧ st74 ≤ 9223372036854775807) ∧
        (-9223372036854775808 ≤ n76 ∧ n76 ≤ 9223372036854775807) ∧
        [AV.int IntKind.i64 99, AV.str [120], AV.int IntKind.i64 1] = [AV.int IntKind.i64 st74, AV.str w75, AV.int IntKind.i64 n76] ∧
        ∃ (st77 : Int),
        ∃ (w78 : List UInt8),
        ∃ (n79 : Int),
        List.length w78 ≤ 10000 ∧
        (-9223372036854775808 ≤ st77 ∧ st77 ≤ 9223372036854775807) ∧
        (-9223372036854775808 ≤ n79 ∧ n79 ≤ 9223372036854775807) ∧
        [AV.int IntKind.i64 200, AV.str [10], AV.int IntKind.i64 1] = [AV.int IntKind.i64 st77, AV.str w78, AV.int IntKind.i64 n79] ∧
        ∃ (st80 : Int),
        ∃ (w81 : List UInt8),
        ∃ (n82 : Int),
        List.length w81 ≤ 10000 ∧
        (-9223372036854775808 ≤ st80 ∧ st80 ≤ 9223372036854775807) ∧
        (-9223372036854775808 ≤ n82 ∧ n82 ≤ 9223372036854775807) ∧
        [AV.int IntKind.i64 600, AV.str [120], AV.int IntKind.i64 1] = [AV.int IntKind.i64 st80, AV.str w81, AV.int IntKind.i64 n82] ∧
        ∃ (st83 : Int),
        ∃ (w84 : List UInt8),
        ∃ (n85 : Int),
        List.length w84 ≤ 10000 ∧
        (-9223372036854775808 ≤ st83 ∧ st83 ≤ 9223372036854775807) ∧
        (-9223372036854775808 ≤ n85 ∧ n85 ≤ 9223372036854775807) ∧
        [AV.int IntKind.i64 200, AV.str [120], AV.int IntKind.i64 (-1)] = [AV.int IntKind.i64 st83, AV.str w84, AV.int IntKind.i64 n85] ∧
        ifP (Prod.snd (putReq a62 b63 n64) == 4)
        (ifP (Prod.snd (putReq a65 b66 n67) == 4)
        (ifP (Prod.snd (putReq a68 b69 n70) == 4)
        (ifP (Prod.fst (putSt st71 w72 n73) == [72, 84, 84, 80, 47, 49, 46, 48, 32, 51, 48, 52, 32])
        (ifP (Prod.snd (putSt st71 w72 n73) == 0)
        (ifP (Prod.snd (putSt st74 w75 n76) == 4)
        (ifP (Prod.snd (putSt st77 w78 n79) == 4)
        (ifP (Prod.snd (putSt st80 w81 n82) == 4)
        (ifP (Prod.snd (putSt st83 w84 n85) == 4)
        (∃ (s86 : List UInt8),
        ∃ (w187 : Int),
        ∃ (w288 : Int),
        List.length s86 ≤ 100000 ∧
        [AV.str
        (zerosB 2049),
        AV.int IntKind.i64 3, AV.int IntKind.i64 3] =
        [AV.str s86, AV.int IntKind.i64 w187, AV.int IntKind.i64 w288] ∧
        ifP (decide (reqP s86 = ([], [], 0, w187)) && decide (stP s86 = (0, [], 0, w288))) (true = true ∧ AV.bool true = v) (AV.bool false = v))
        (AV.bool false = v))
        (AV.bool false = v))
        (AV.bool false = v))
        (AV.bool false = v))
        (AV.bool false = v))
        (AV.bool false = v))
        (AV.bool false = v))
        (AV.bool false = v))
        (AV.bool false = v))))))))))))))))))))) := by kernel_rfl
  exact unr_ok hT 100000 _ _ _ _ (e.mpr H)

end Go.Proofs.YtahojaolkehojaaDoor
end

section
namespace Go.Proofs.YtahojaolkehojaaDoor
open Go.Ai Go
set_option linter.unusedSimpArgs false
set_option linter.unusedVariables false
set_option maxRecDepth 100000
theorem pf6 : pureFn cfg 6 Tryd.f6 := ⟨by kernel_rfl, by kernel_rfl, by kernel_rfl, by kernel_rfl, by kernel_rfl, by kernel_rfl⟩
theorem not_go {A B : Prop} {c : Bool} (h : c = true) (k : A) : ifP (!c) B A := ifP_intro (fun a => by rw [h] at a; cases a) fun _ => k
theorem yes_go {A B : Prop} {c : Bool} (h : c = true) (k : A) : ifP c A B := ifP_intro (fun _ => k) fun a => by rw [h] at a; cases a
theorem no_is {s : List UInt8} {w1 w2 : Int} (a : reqP s = ([], [], 0, w1)) (b : stP s = (0, [], 0, w2)) : (decide (reqP s = ([], [], 0, w1)) && decide (stP s = (0, [], 0, w2))) = true := by rw [decide_eq_true a, decide_eq_true b]; rfl
theorem req_long {s : List UInt8} (h : 2048 < s.length) : reqP s = ([], [], 0, 3) := by unfold reqP; rw [if_pos h]
theorem st_long {s : List UInt8} (h : 2048 < s.length) : stP s = (0, [], 0, 3) := by unfold stP; rw [if_pos h]
theorem zeros_len (n : Nat) : (zerosB n).length = n := List.length_replicate

theorem ex1 : reqP [71, 69, 84, 32, 47, 97, 32, 72, 84, 84, 80, 47, 49, 46, 48] = ([71, 69, 84], [47, 97], 0, 0) := by decide
theorem ex2 : reqP [77, 32, 42, 32, 72, 84, 84, 80, 47, 49, 46, 55] = ([77], [42], 1, 0) := by decide
theorem ex3 : reqP [71, 69, 84, 32, 47, 97, 32, 72, 84, 84, 80, 47, 50, 46, 48] = ([], [], 0, 9) := by decide
theorem ey3 : stP [71, 69, 84, 32, 47, 97, 32, 72, 84, 84, 80, 47, 50, 46, 48] = (0, [], 0, 4) := by decide
theorem ex4 : reqP [71, 69, 84, 32, 47, 97, 32, 104, 116, 116, 112, 47, 49, 46, 49] = ([], [], 0, 4) := by decide
theorem ey4 : stP [71, 69, 84, 32, 47, 97, 32, 104, 116, 116, 112, 47, 49, 46, 49] = (0, [], 0, 4) := by decide
theorem ex5 : reqP [71, 69, 84, 32, 32, 47, 97, 32, 72, 84, 84, 80, 47, 49, 46, 49] = ([], [], 0, 4) := by decide
theorem ey5 : stP [71, 69, 84, 32, 32, 47, 97, 32, 72, 84, 84, 80, 47, 49, 46, 49] = (0, [], 0, 4) := by decide
theorem ex6 : reqP [71, 69, 84, 32, 47, 97, 32, 72, 84, 84, 80, 47, 49, 46, 49, 32] = ([], [], 0, 4) := by decide
theorem ey6 : stP [71, 69, 84, 32, 47, 97, 32, 72, 84, 84, 80, 47, 49, 46, 49, 32] = (0, [], 0, 4) := by decide
theorem ex7 : reqP [71, 69, 84, 32, 47, 97] = ([], [], 0, 4) := by decide
theorem ey7 : stP [71, 69, 84, 32, 47, 97] = (0, [], 0, 4) := by decide
theorem ex8 : reqP [71, 69, 84, 32, 47, 97, 32, 72, 84, 84, 80, 47, 49, 49] = ([], [], 0, 4) := by decide
theorem ey8 : stP [71, 69, 84, 32, 47, 97, 32, 72, 84, 84, 80, 47, 49, 49] = (0, [], 0, 4) := by decide
theorem ex9 : reqP [] = ([], [], 0, 4) := by decide
theorem ey9 : stP [] = (0, [], 0, 4) := by decide
theorem ex10 : reqP [71, 69, 84, 32, 32, 72, 84, 84, 80, 47, 49, 46, 49] = ([], [], 0, 4) := by decide
theorem ey10 : stP [71, 69, 84, 32, 32, 72, 84, 84, 80, 47, 49, 46, 49] = (0, [], 0, 4) := by decide
theorem ex11 : reqP [71, 40, 84, 32, 47, 97, 32, 72, 84, 84, 80, 47, 50, 46, 49] = ([], [], 0, 4) := by decide
theorem ey11 : stP [71, 40, 84, 32, 47, 97, 32, 72, 84, 84, 80, 47, 50, 46, 49] = (0, [], 0, 4) := by decide
theorem ex12 : stP [72, 84, 84, 80, 47, 49, 46, 49, 32, 52, 48, 52, 32] = (404, [], 1, 0) := by decide
theorem ex13 : reqP [72, 84, 84, 80, 47, 49, 46, 49, 32, 52, 48, 52] = ([], [], 0, 4) := by decide
theorem ey13 : stP [72, 84, 84, 80, 47, 49, 46, 49, 32, 52, 48, 52] = (0, [], 0, 4) := by decide
theorem ex14 : reqP [72, 84, 84, 80, 47, 49, 46, 49, 32, 54, 48, 48, 32, 120] = ([], [], 0, 4) := by decide
theorem ey14 : stP [72, 84, 84, 80, 47, 49, 46, 49, 32, 54, 48, 48, 32, 120] = (0, [], 0, 4) := by decide
theorem ex15 : reqP [72, 84, 84, 80, 47, 48, 46, 57, 32, 50, 48, 48, 32, 79, 75] = ([], [], 0, 4) := by decide
theorem ey15 : stP [72, 84, 84, 80, 47, 48, 46, 57, 32, 50, 48, 48, 32, 79, 75] = (0, [], 0, 9) := by decide
theorem ex16 : stP [72, 84, 84, 80, 47, 49, 46, 48, 32, 49, 48, 48, 32, 128, 9, 120] = (100, [128, 9, 120], 0, 0) := by decide
theorem ex17 : reqP [72, 84, 84, 80, 47, 49, 46, 49, 32, 50, 48, 48, 32, 127] = ([], [], 0, 4) := by decide
theorem ey17 : stP [72, 84, 84, 80, 47, 49, 46, 49, 32, 50, 48, 48, 32, 127] = (0, [], 0, 4) := by decide
theorem ex18 : reqP [72, 84, 84, 80, 47, 49, 46, 49, 32, 50, 48, 32, 79, 75] = ([], [], 0, 4) := by decide
theorem ey18 : stP [72, 84, 84, 80, 47, 49, 46, 49, 32, 50, 48, 32, 79, 75] = (0, [], 0, 4) := by decide
theorem ex19 : reqP [72, 84, 84, 80, 47, 49, 46, 49, 32, 32, 50, 48, 48, 32, 79, 75] = ([], [], 0, 4) := by decide
theorem ey19 : stP [72, 84, 84, 80, 47, 49, 46, 49, 32, 32, 50, 48, 48, 32, 79, 75] = (0, [], 0, 4) := by decide
theorem ex20 : (putReq [71, 32, 84] [47, 97] 1).2 = 4 := by decide
theorem ex21 : (putReq [71, 69, 84] [] 1).2 = 4 := by decide
theorem ex22 : (putReq [71, 69, 84] [47, 97] 2).2 = 4 := by decide
theorem ex23 : putSt 304 [] 0 = ([72, 84, 84, 80, 47, 49, 46, 48, 32, 51, 48, 52, 32], 0) := by decide
theorem ex24 : (putSt 99 [120] 1).2 = 4 := by decide
theorem ex25 : (putSt 200 [10] 1).2 = 4 := by decide
theorem ex26 : (putSt 600 [120] 1).2 = 4 := by decide
theorem ex27 : (putSt 200 [120] (-1)).2 = 4 := by decide
theorem c6 : COk cfg 6 Ai.trueC := by
  refine cok_pure pf6 fun vs h K ht => ?_
  obtain ⟨hv, hk⟩ := ht
  cases vs with
  | cons _ _ => cases hv
  | nil =>
    refine ⟨_, hk, ?_⟩
    refine t6 (ctab_ok (ctab_cons c9 (ctab_cons c14 (ctab_cons c16 (ctab_cons c18 (ctab_cons c19 (ctab_cons c20 ctab_nil))))))) ?_
    refine ⟨_, _, _, _, by decide, rfl, ?_⟩
    refine not_go (decide_eq_true ex1) ?_
    refine ⟨_, _, _, _, by decide, rfl, ?_⟩
    refine not_go (decide_eq_true ex2) ?_
    refine ⟨_, _, _, by decide, rfl, ?_⟩
    refine not_go (no_is ex3 ey3) ?_
    refine ⟨_, _, _, by decide, rfl, ?_⟩
    refine not_go (no_is ex4 ey4) ?_
    refine ⟨_, _, _, by decide, rfl, ?_⟩
    refine not_go (no_is ex5 ey5) ?_
    refine ⟨_, _, _, by decide, rfl, ?_⟩
    refine not_go (no_is ex6 ey6) ?_
    refine ⟨_, _, _, by decide, rfl, ?_⟩
    refine not_go (no_is ex7 ey7) ?_
    refine ⟨_, _, _, by decide, rfl, ?_⟩
    refine not_go (no_is ex8 ey8) ?_
    refine ⟨_, _, _, by decide, rfl, ?_⟩
    refine not_go (no_is ex9 ey9) ?_
    refine ⟨_, _, _, by decide, rfl, ?_⟩
    refine not_go (no_is ex10 ey10) ?_
    refine ⟨_, _, _, by decide, rfl, ?_⟩
    refine not_go (no_is ex11 ey11) ?_
    refine ⟨_, _, _, _, by decide, rfl, ?_⟩
    refine not_go (decide_eq_true ex12) ?_
    refine ⟨_, _, _, by decide, rfl, ?_⟩
    refine not_go (no_is ex13 ey13) ?_
    refine ⟨_, _, _, by decide, rfl, ?_⟩
    refine not_go (no_is ex14 ey14) ?_
    refine ⟨_, _, _, by decide, rfl, ?_⟩
    refine not_go (no_is ex15 ey15) ?_
    refine ⟨_, _, _, _, by decide, rfl, ?_⟩
    refine not_go (decide_eq_true ex16) ?_
    refine ⟨_, _, _, by decide, rfl, ?_⟩
    refine not_go (no_is ex17 ey17) ?_
    refine ⟨_, _, _, by decide, rfl, ?_⟩
    refine not_go (no_is ex18 ey18) ?_
    refine ⟨_, _, _, by decide, rfl, ?_⟩
    refine not_go (no_is ex19 ey19) ?_
    refine ⟨_, _, _, by decide, by decide, ⟨by decide, by decide⟩, rfl, ?_⟩
    refine ⟨_, _, _, by decide, by decide, ⟨by decide, by decide⟩, rfl, ?_⟩
    refine ⟨_, _, _, by decide, by decide, ⟨by decide, by decide⟩, rfl, ?_⟩
    refine ⟨_, _, _, by decide, ⟨by decide, by decide⟩, ⟨by decide, by decide⟩, rfl, ?_⟩
    refine ⟨_, _, _, by decide, ⟨by decide, by decide⟩, ⟨by decide, by decide⟩, rfl, ?_⟩
    refine ⟨_, _, _, by decide, ⟨by decide, by decide⟩, ⟨by decide, by decide⟩, rfl, ?_⟩
    refine ⟨_, _, _, by decide, ⟨by decide, by decide⟩, ⟨by decide, by decide⟩, rfl, ?_⟩
    refine ⟨_, _, _, by decide, ⟨by decide, by decide⟩, ⟨by decide, by decide⟩, rfl, ?_⟩
    refine yes_go (by rw [ex20]; rfl) ?_
    refine yes_go (by rw [ex21]; rfl) ?_
    refine yes_go (by rw [ex22]; rfl) ?_
    refine yes_go (by rw [ex23]; rfl) ?_
    refine yes_go (by rw [ex23]; rfl) ?_
    refine yes_go (by rw [ex24]; rfl) ?_
    refine yes_go (by rw [ex25]; rfl) ?_
    refine yes_go (by rw [ex26]; rfl) ?_
    refine yes_go (by rw [ex27]; rfl) ?_
    refine ⟨_, _, _, by rw [zeros_len]; decide, rfl, ?_⟩
    exact yes_go (no_is (req_long (by rw [zeros_len]; decide)) (st_long (by rw [zeros_len]; decide))) ⟨rfl, rfl⟩
end Go.Proofs.YtahojaolkehojaaDoor
end
