/-
  Runs of functions of bodies in chunks, printed by a home tool; each is the kernel's word.
  Runs of functions of bodies in chunks, printed by a home tool; each is the kernel's word.
  Bodies in chunks: the examples' contract.
-/
import Derived.Test.YtnncfdlpogjlkaaDoorCfg
import Derived.Test.YtnncfdlpogjlkaaDoorJCa
import Derived.Test.YtnncfdlpogjlkaaDoorJCf
section
namespace Go.Proofs.YtnncfdlpogjlkaaDoor
open Go.Ai Go
set_option maxRecDepth 100000
set_option linter.unusedVariables false
theorem t10 {v : AV}  (hT : TabOk cfg (ctab [(24, Ai.trueC), (28, encC), (31, givesC), (32, failsC)])) (H :
    ∃ (s1 : List UInt8),
  ∃ (b2 : List UInt8),
    ∃ (m3 : Int),
      ∃ (u4 : Int),
        ∃ (t5 : Int),
          List.length s1 ≤ 10000000 ∧
            (-9223372036854775808 ≤ m3 ∧ m3 ≤ 9223372036854775807) ∧
              [AV.str [48, 13, 10, 13, 10], AV.int IntKind.i64 100, AV.str [], AV.int IntKind.i64 5, AV.int IntKind.i64 0] = [AV.str s1, AV.int IntKind.i64 m3, AV.str b2, AV.int IntKind.i64 u4, AV.int IntKind.i64 t5] ∧
                ifP (!givesB s1 m3 b2 u4 t5) (AV.bool false = v)
                  (∃ (s6 : List UInt8),
                    ∃ (b7 : List UInt8),
                      ∃ (m8 : Int),
                        ∃ (u9 : Int),
                          ∃ (t10 : Int),
                            List.length s6 ≤ 10000000 ∧
                              (-9223372036854775808 ≤ m8 ∧ m8 ≤ 9223372036854775807) ∧
                                [AV.str [51, 59, 97, 61, 98, 13, 10, 97, 98, 99, 13, 10, 48, 48, 13, 10, 65, 58, 32, 98, 13, 10, 13, 10], AV.int IntKind.i64 100, AV.str [97, 98, 99], AV.int IntKind.i64 24, AV.int IntKind.i64 1] = [AV.str s6, AV.int IntKind.i64 m8, AV.str b7, AV.int IntKind.i64 u9, AV.int IntKind.i64 t10] ∧
                                  ifP (!givesB s6 m8 b7 u9 t10) (AV.bool false = v)
                                    (∃ (s11 : List UInt8),
                                      ∃ (b12 : List UInt8),
                                        ∃ (m13 : Int),
                                          ∃ (u14 : Int),
                                            ∃ (t15 : Int),
                                              List.length s11 ≤ 10000000 ∧
                                                (-9223372036854775808 ≤ m13 ∧ m13 ≤ 9223372036854775807) ∧
                                                  [AV.str [65, 13, 10, 48, 49, 50, 51, 52, 53, 54, 55, 56, 57, 13, 10, 48, 59, 9, 13, 10, 13, 10], AV.int IntKind.i64 10, AV.str [48, 49, 50, 51, 52, 53, 54, 55, 56, 57], AV.int IntKind.i64 22, AV.int IntKind.i64 0] = [AV.str s11, AV.int IntKind.i64 m13, AV.str b12, AV.int IntKind.i64 u14, AV.int IntKind.i64 t15] ∧
                                                    ifP (!givesB s11 m13 b12 u14 t15) (AV.bool false = v)
                                                      (∃ (s16 : List UInt8),
                                                        [AV.str [51, 13, 10, 97, 98, 99]] = [AV.str s16] ∧
                                                          ∃ (s17 : List UInt8),
                                                            ∃ (m18 : Int),
                                                              ∃ (e19 : Int),
                                                                List.length s17 ≤ 10000000 ∧
                                                                  (-9223372036854775808 ≤ m18 ∧ m18 ≤ 9223372036854775807) ∧
                                                                    [AV.str s16, AV.int IntKind.i64 100, AV.int IntKind.i64 6] = [AV.str s17, AV.int IntKind.i64 m18, AV.int IntKind.i64 e19] ∧
                                                                      ifP (!failsB s17 m18 e19) (AV.bool false = v)
                                                                        (∃ (s20 : List UInt8),
                                                                          [AV.str [51, 13, 10, 97, 98, 99, 13]] = [AV.str s20] ∧
                                                                            ∃ (s21 : List UInt8),
                                                                              ∃ (m22 : Int),
                                                                                ∃ (e23 : Int),
                                                                                  List.length s21 ≤ 10000000 ∧
                                                                                    (-9223372036854775808 ≤ m22 ∧ m22 ≤ 9223372036854775807) ∧
                                                                                      [AV.str s20, AV.int IntKind.i64 100, AV.int IntKind.i64 6] = [AV.str s21, AV.int IntKind.i64 m22, AV.int IntKind.i64 e23] ∧
                                                                                        ifP (!failsB s21 m22 e23) (AV.bool false = v)
                                                                                          (∃ (s24 : List UInt8),
                                                                                            [AV.str [51]] = [AV.str s24] ∧
                                                                                              ∃ (s25 : List UInt8),
                                                                                                ∃ (m26 : Int),
                                                                                                  ∃ (e27 : Int),
                                                                                                    List.length s25 ≤ 10000000 ∧
                                                                                                      (-9223372036854775808 ≤ m26 ∧ m26 ≤ 9223372036854775807) ∧
                                                                                                        [AV.str s24, AV.int IntKind.i64 100, AV.int IntKind.i64 6] = [AV.str s25, AV.int IntKind.i64 m26, AV.int IntKind.i64 e27] ∧
                                                                                                          ifP (!failsB s25 m26 e27) (AV.bool false = v)
                                                                                                            (∃ (s28 : List UInt8),
                                                                                                              [AV.str []] = [AV.str s28] ∧
                                                                                                                ∃ (s29 : List UInt8),
                                                                                                                  ∃ (m30 : Int),
                                                                                                                    ∃ (e31 : Int),
                                                                                                                      List.length s29 ≤ 10000000 ∧
                                                                                                                        (-9223372036854775808 ≤ m30 ∧ m30 ≤ 9223372036854775807) ∧
                                                                                                                          [AV.str s28, AV.int IntKind.i64 100, AV.int IntKind.i64 6] = [AV.str s29, AV.int IntKind.i64 m30, AV.int IntKind.i64 e31] ∧
                                                                                                                            ifP (!failsB s29 m30 e31) (AV.bool false = v)
                                                                                                                              (∃ (s32 : List UInt8),
                                                                                                                                [AV.str [48, 13, 10]] = [AV.str s32] ∧
                                                                                                                                  ∃ (s33 : List UInt8),
                                                                                                                                    ∃ (m34 : Int),
                                                                                                                                      ∃ (e35 : Int),
                                                                                                                                        List.length s33 ≤ 10000000 ∧
                                                                                                                                          (-9223372036854775808 ≤ m34 ∧ m34 ≤ 9223372036854775807) ∧
                                                                                                                                            [AV.str s32, AV.int IntKind.i64 100, AV.int IntKind.i64 6] = [AV.str s33, AV.int IntKind.i64 m34, AV.int IntKind.i64 e35] ∧
                                                                                                                                              ifP (!failsB s33 m34 e35) (AV.bool false = v)
                                                                                                                                                (∃ (s36 : List UInt8),
                                                                                                                                                  [AV.str [48, 13, 10, 65, 58, 32, 98, 13, 10]] = [AV.str s36] ∧
                                                                                                                                                    ∃ (s37 : List UInt8),
                                                                                                                                                      ∃ (m38 : Int),
                                                                                                                                                        ∃ (e39 : Int),
                                                                                                                                                          List.length s37 ≤ 10000000 ∧
                                                                                                                                                            (-9223372036854775808 ≤ m38 ∧ m38 ≤ 9223372036854775807) ∧
                                                                                                                                                              [AV.str s36, AV.int IntKind.i64 100, AV.int IntKind.i64 6] = [AV.str s37, AV.int IntKind.i64 m38, AV.int IntKind.i64 e39] ∧
                                                                                                                                                                ifP (!failsB s37 m38 e39) (AV.bool false = v)
                                                                                                                                                                  (∃ (s40 : List UInt8),
                                                                                                                                                                    [AV.str [48, 13, 10, 65, 58, 32, 98, 13, 10, 13]] = [AV.str s40] ∧
                                                                                                                                                                      ∃ (s41 : List UInt8),
                                                                                                                                                                        ∃ (m42 : Int),
                                                                                                                                                                          ∃ (e43 : Int),
                                                                                                                                                                            List.length s41 ≤ 10000000 ∧
                                                                                                                                                                              (-9223372036854775808 ≤ m42 ∧ m42 ≤ 9223372036854775807) ∧
                                                                                                                                                                                [AV.str s40, AV.int IntKind.i64 100, AV.int IntKind.i64 6] = [AV.str s41, AV.int IntKind.i64 m42, AV.int IntKind.i64 e43] ∧
                                                                                                                                                                                  ifP (!failsB s41 m42 e43) (AV.bool false = v) (∃ (s44 : List UInt8), [AV.str [51, 13]] = [AV.str s44] ∧ ∃ (s45 : List UInt8), ∃ (m46 : Int), ∃ (e47 : Int), List.length s45 ≤ 10000000 ∧ (-9223372036854775808 ≤ m46 ∧ m46 ≤ 9223372036854775807) ∧ [AV.str s44, AV.int IntKind.i64 100, AV.int IntKind.i64 6] = [AV.str s45, AV.int IntKind.i64 m46, AV.int IntKind.i64 e47] ∧ ifP (!failsB s45 m46 e47) (AV.bool false = v) (∃ (s48 : List UInt8), [AV.str [51, 13, 10, 97, 98, 99, 100]] = [AV.str s48] ∧ ∃ (s49 : List UInt8), ∃ (m50 : Int), ∃ (e51 : Int), List.length s49 ≤ 10000000 ∧ (-9223372036854775808 ≤ m50 ∧ m50 ≤ 9223372036854775807) ∧ [AV.str s48, AV.int IntKind.i64 100, AV.int IntKind.i64 4] = [AV.str s49, AV.int IntKind.i64 m50, AV.int IntKind.i64 e51] ∧ ifP (!failsB s49 m50 e51) (AV.bool false = v) (∃ (s52 : List UInt8), [AV.str [103, 13, 10]] = [AV.str s52] ∧ ∃ (s53 : List UInt8), ∃ (m54 : Int), ∃ (e55 : Int), List.length s53 ≤ 10000000 ∧ (-9223372036854775808 ≤ m54 ∧ m54 ≤ 9223372036854775807) ∧ [AV.str s52, AV.int IntKind.i64 100, AV.int IntKind.i64 4] = [AV.str s53, AV.int IntKind.i64 m54, AV.int IntKind.i64 e55] ∧ ifP (!failsB s53 m54 e55) (AV.bool false = v) (∃ (s56 : List UInt8), [AV.str [13, 10]] = [AV.str s56] ∧ ∃ (s57 : List UInt8), ∃ (m58 : Int), ∃ (e59 : Int), List.length s57 ≤ 10000000 ∧ (-9223372036854775808 ≤ m58 ∧ m58 ≤ 9223372036854775807) ∧ [AV.str s56, AV.int IntKind.i64 100, AV.int IntKind.i64 4] = [AV.str s57, AV.int IntKind.i64 m58, AV.int IntKind.i64 e59] ∧ ifP (!failsB s57 m58 e59) (AV.bool false = v) (∃ (s60 : List UInt8), [AV.str [51, 32, 13, 10, 97, 98, 99, 13, 10, 48, 13, 10, 13, 10]] = [AV.str s60] ∧ ∃ (s61 : List UInt8), ∃ (m62 : Int), ∃ (e63 : Int), List.length s61 ≤ 10000000 ∧ (-9223372036854775808 ≤ m62 ∧ m62 ≤ 9223372036854775807) ∧ [AV.str s60, AV.int IntKind.i64 100, AV.int IntKind.i64 4] = [AV.str s61, AV.int IntKind.i64 m62, AV.int IntKind.i64 e63] ∧ ifP (!failsB s61 m62 e63) (AV.bool false = v) (∃ (s64 : List UInt8), [AV.str [49, 50, 51, 52, 53, 54, 55, 56, 57, 13, 10]] = [AV.str s64] ∧ ∃ (s65 : List UInt8), ∃ (m66 : Int), ∃ (e67 : Int), List.length s65 ≤ 10000000 ∧ (-9223372036854775808 ≤ m66 ∧ m66 ≤ 9223372036854775807) ∧ [AV.str s64, AV.int IntKind.i64 100, AV.int IntKind.i64 4] = [AV.str s65, AV.int IntKind.i64 m66, AV.int IntKind.i64 e67] ∧ ifP (!failsB s65 m66 e67) (AV.bool false = v) (∃ (s68 : List UInt8), [AV.str [51, 59, 127, 13, 10, 97, 98, 99, 13, 10, 48, 13, 10, 13, 10]] = [AV.str s68] ∧ ∃ (s69 : List UInt8), ∃ (m70 : Int), ∃ (e71 : Int), List.length s69 ≤ 10000000 ∧ (-9223372036854775808 ≤ m70 ∧ m70 ≤ 9223372036854775807) ∧ [AV.str s68, AV.int IntKind.i64 100, AV.int IntKind.i64 4] = [AV.str s69, AV.int IntKind.i64 m70, AV.int IntKind.i64 e71] ∧ ifP (!failsB s69 m70 e71) (AV.bool false = v) (∃ (s72 : List UInt8), [AV.str [48, 13, 10, 65, 32, 98, 13, 10, 13, 10]] = [AV.str s72] ∧ ∃ (s73 : List UInt8), ∃ (m74 : Int), ∃ (e75 : Int), List.length s73 ≤ 10000000 ∧ (-9223372036854775808 ≤ m74 ∧ m74 ≤ 9223372036854775807) ∧ [AV.str s72, AV.int IntKind.i64 100, AV.int IntKind.i64 4] = [AV.str s73, AV.int IntKind.i64 m74, AV.int IntKind.i64 e75] ∧ ifP (!failsB s73 m74 e75) (AV.bool false = v) (∃ (s76 : List UInt8), [AV.str [51, 10, 97, 98, 99, 13, 10]] = [AV.str s76] ∧ ∃ (s77 : List UInt8), ∃ (m78 : Int), ∃ (e79 : Int), List.length s77 ≤ 10000000 ∧ (-9223372036854775808 ≤ m78 ∧ m78 ≤ 9223372036854775807) ∧ [AV.str s76, AV.int IntKind.i64 100, AV.int IntKind.i64 4] = [AV.str s77, AV.int IntKind.i64 m78, AV.int IntKind.i64 e79] ∧ ifP (!failsB s77 m78 e79) (AV.bool false = v) (ToEnd cfg 10 (bodyOf Tryd.f10) (RetIs Tryd.prog Tryd.f10 v) [Fm.code [0, 1, 1, 1, 1, 1, 1], Fm.code [1, 1, 1, 1, 1, 1, 1]] XT.normal [] [Blk.grow 8 1 9, Blk.grow 8 1 9])))))))))))))))))))) :
    ToEnd cfg 10 (bodyOf Tryd.f10) (RetIs Tryd.prog Tryd.f10 v) ([.code []]) .normal ([]) ([]) := by
  have e : unr cfg 10 (bodyOf Tryd.f10) (ctab [(24, Ai.trueC), (28, encC), (31, givesC), (32, failsC)]) ⟨[[0, 1, 1, 1, 1, 1, 1]], [([0, 0, 0, 1, 0, 0, 1, 0, 1, 1, 1], 2, [.str]), ([0, 0, 0, 1, 0, 0, 1, 0, 1, 1, 1, 1, 1], 2, [.str])]⟩ (RetIs Tryd.prog Tryd.f10 v) 100000 ([.code []]) .normal ([]) ([]) =
    (∃ (s1 : List UInt8),
  ∃ (b2 : List UInt8),
    ∃ (m3 : Int),
      ∃ (u4 : Int),
        ∃ (t5 : Int),
          List.length s1 ≤ 10000000 ∧
            (-9223372036854775808 ≤ m3 ∧ m3 ≤ 9223372036854775807) ∧
              [AV.str [48, 13, 10, 13, 10], AV.int IntKind.i64 100, AV.str [], AV.int IntKind.i64 5, AV.int IntKind.i64 0] = [AV.str s1, AV.int IntKind.i64 m3, AV.str b2, AV.int IntKind.i64 u4, AV.int IntKind.i64 t5] ∧
                ifP (!givesB s1 m3 b2 u4 t5) (AV.bool false = v)
                  (∃ (s6 : List UInt8),
                    ∃ (b7 : List UInt8),
                      ∃ (m8 : Int),
                        ∃ (u9 : Int),
                          ∃ (t10 : Int),
                            List.length s6 ≤ 10000000 ∧
                              (-9223372036854775808 ≤ m8 ∧ m8 ≤ 9223372036854775807) ∧
                                [AV.str [51, 59, 97, 61, 98, 13, 10, 97, 98, 99, 13, 10, 48, 48, 13, 10, 65, 58, 32, 98, 13, 10, 13, 10], AV.int IntKind.i64 100, AV.str [97, 98, 99], AV.int IntKind.i64 24, AV.int IntKind.i64 1] = [AV.str s6, AV.int IntKind.i64 m8, AV.str b7, AV.int IntKind.i64 u9, AV.int IntKind.i64 t10] ∧
                                  ifP (!givesB s6 m8 b7 u9 t10) (AV.bool false = v)
                                    (∃ (s11 : List UInt8),
                                      ∃ (b12 : List UInt8),
                                        ∃ (m13 : Int),
                                          ∃ (u14 : Int),
                                            ∃ (t15 : Int),
                                              List.length s11 ≤ 10000000 ∧
                                                (-9223372036854775808 ≤ m13 ∧ m13 ≤ 9223372036854775807) ∧
                                                  [AV.str [65, 13, 10, 48, 49, 50, 51, 52, 53, 54, 55, 56, 57, 13, 10, 48, 59, 9, 13, 10, 13, 10], AV.int IntKind.i64 10, AV.str [48, 49, 50, 51, 52, 53, 54, 55, 56, 57], AV.int IntKind.i64 22, AV.int IntKind.i64 0] = [AV.str s11, AV.int IntKind.i64 m13, AV.str b12, AV.int IntKind.i64 u14, AV.int IntKind.i64 t15] ∧
                                                    ifP (!givesB s11 m13 b12 u14 t15) (AV.bool false = v)
                                                      (∃ (s16 : List UInt8),
                                                        [AV.str [51, 13, 10, 97, 98, 99]] = [AV.str s16] ∧
                                                          ∃ (s17 : List UInt8),
                                                            ∃ (m18 : Int),
                                                              ∃ (e19 : Int),
                                                                List.length s17 ≤ 10000000 ∧
                                                                  (-9223372036854775808 ≤ m18 ∧ m18 ≤ 9223372036854775807) ∧
                                                                    [AV.str s16, AV.int IntKind.i64 100, AV.int IntKind.i64 6] = [AV.str s17, AV.int IntKind.i64 m18, AV.int IntKind.i64 e19] ∧
                                                                      ifP (!failsB s17 m18 e19) (AV.bool false = v)
                                                                        (∃ (s20 : List UInt8),
                                                                          [AV.str [51, 13, 10, 97, 98, 99, 13]] = [AV.str s20] ∧
                                                                            ∃ (s21 : List UInt8),
                                                                              ∃ (m22 : Int),
                                                                                ∃ (e23 : Int),
                                                                                  List.length s21 ≤ 10000000 ∧
                                                                                    (-9223372036854775808 ≤ m22 ∧ m22 ≤ 9223372036854775807) ∧
                                                                                      [AV.str s20, AV.int IntKind.i64 100, AV.int IntKind.i64 6] = [AV.str s21, AV.int IntKind.i64 m22, AV.int IntKind.i64 e23] ∧
                                                                                        ifP (!failsB s21 m22 e23) (AV.bool false = v)
                                                                                          (∃ (s24 : List UInt8),
                                                                                            [AV.str [51]] = [AV.str s24] ∧
                                                                                              ∃ (s25 : List UInt8),
                                                                                                ∃ (m26 : Int),
                                                                                                  ∃ (e27 : Int),
                                                                                                    List.length s25 ≤ 10000000 ∧
                                                                                                      (-9223372036854775808 ≤ m26 ∧ m26 ≤ 9223372036854775807) ∧
                                                                                                        [AV.str s24, AV.int IntKind.i64 100, AV.int IntKind.i64 6] = [AV.str s25, AV.int IntKind.i64 m26, AV.int IntKind.i64 e27] ∧
                                                                                                          ifP (!failsB s25 m26 e27) (AV.bool false = v)
                                                                                                            (∃ (s28 : List UInt8),
                                                                                                              [AV.str []] = [AV.str s28] ∧
                                                                                                                ∃ (s29 : List UInt8),
                                                                                                                  ∃ (m30 : Int),
                                                                                                                    ∃ (e31 : Int),
                                                                                                                      List.length s29 ≤ 10000000 ∧
                                                                                                                        (-9223372036854775808 ≤ m30 ∧ m30 ≤ 9223372036854775807) ∧
                                                                                                                          [AV.str s28, AV.int IntKind.i64 100, AV.int IntKind.i64 6] = [AV.str s29, AV.int IntKind.i64 m30, AV.int IntKind.i64 e31] ∧
                                                                                                                            ifP (!failsB s29 m30 e31) (AV.bool false = v)
                                                                                                                              (∃ (s32 : List UInt8),
                                                                                                                                [AV.str [48, 13, 10]] = [AV.str s32] ∧
                                                                                                                                  ∃ (s33 : List UInt8),
                                                                                                                                    ∃ (m34 : Int),
                                                                                                                                      ∃ (e35 : Int),
                                                                                                                                        List.length s33 ≤ 10000000 ∧
                                                                                                                                          (-9223372036854775808 ≤ m34 ∧ m34 ≤ 9223372036854775807) ∧
                                                                                                                                            [AV.str s32, AV.int IntKind.i64 100, AV.int IntKind.i64 6] = [AV.str s33, AV.int IntKind.i64 m34, AV.int IntKind.i64 e35] ∧
                                                                                                                                              ifP (!failsB s33 m34 e35) (AV.bool false = v)
                                                                                                                                                (∃ (s36 : List UInt8),
                                                                                                                                                  [AV.str [48, 13, 10, 65, 58, 32, 98, 13, 10]] = [AV.str s36] ∧
                                                                                                                                                    ∃ (s37 : List UInt8),
                                                                                                                                                      ∃ (m38 : Int),
                                                                                                                                                        ∃ (e39 : Int),
                                                                                                                                                          List.length s37 ≤ 10000000 ∧
                                                                                                                                                            (-9223372036854775808 ≤ m38 ∧ m38 ≤ 9223372036854775807) ∧
                                                                                                                                                              [AV.str s36, AV.int IntKind.i64 100, AV.int IntKind.i64 6] = [AV.str s37, AV.int IntKind.i64 m38, AV.int IntKind.i64 e39] ∧
                                                                                                                                                                ifP (!failsB s37 m38 e39) (AV.bool false = v)
                                                                                                                                                                  (∃ (s40 : List UInt8),
                                                                                                                                                                    [AV.str [48, 13, 10, 65, 58, 32, 98, 13, 10, 13]] = [AV.str s40] ∧
                                                                                                                                                                      ∃ (s41 : List UInt8),
                                                                                                                                                                        ∃ (m42 : Int),
                                                                                                                                                                          ∃ (e43 : Int),
                                                                                                                                                                            List.length s41 ≤ 10000000 ∧
                                                                                                                                                                              (-9223372036854775808 ≤ m42 ∧ m42 ≤ 9223372036854775807) ∧
                                                                                                                                                                                [AV.str s40, AV.int IntKind.i64 100, AV.int IntKind.i64 6] = [AV.str s41, AV.int IntKind.i64 m42, AV.int IntKind.i64 e43] ∧
                                                                                                                                                                                  ifP (!failsB s41 m42 e43) (AV.bool false = v) (∃ (s44 : List UInt8), [AV.str [51, 13]] = [AV.str s44] ∧ ∃ (s45 : List UInt8), ∃ (m46 : Int), ∃ (e47 : Int), List.length s45 ≤ 10000000 ∧ (-9223372036854775808 ≤ m46 ∧ m46 ≤ 9223372036854775807) ∧ [AV.str s44, AV.int IntKind.i64 100, AV.int IntKind.i64 6] = [AV.str s45, AV.int IntKind.i64 m46, AV.int IntKind.i64 e47] ∧ ifP (!failsB s45 m46 e47) (AV.bool false = v) (∃ (s48 : List UInt8), [AV.str [51, 13, 10, 97, 98, 99, 100]] = [AV.str s48] ∧ ∃ (s49 : List UInt8), ∃ (m50 : Int), ∃ (e51 : Int), List.length s49 ≤ 10000000 ∧ (-9223372036854775808 ≤ m50 ∧ m50 ≤ 9223372036854775807) ∧ [AV.str s48, AV.int IntKind.i64 100, AV.int IntKind.i64 4] = [AV.str s49, AV.int IntKind.i64 m50, AV.int IntKind.i64 e51] ∧ ifP (!failsB s49 m50 e51) (AV.bool false = v) (∃ (s52 : List UInt8), [AV.str [103, 13, 10]] = [AV.str s52] ∧ ∃ (s53 : List UInt8), ∃ (m54 : Int), ∃ (e55 : Int), List.length s53 ≤ 10000000 ∧ (-9223372036854775808 ≤ m54 ∧ m54 ≤ 9223372036854775807) ∧ [AV.str s52, AV.int IntKind.i64 100, AV.int IntKind.i64 4] = [AV.str s53, AV.int IntKind.i64 m54, AV.int IntKind.i64 e55] ∧ ifP (!failsB s53 m54 e55) (AV.bool false = v) (∃ (s56 : List UInt8), [AV.str [13, 10]] = [AV.str s56] ∧ ∃ (s57 : List UInt8), ∃ (m58 : Int), ∃ (e59 : Int), List.length s57 ≤ 10000000 ∧ (-9223372036854775808 ≤ m58 ∧ m58 ≤ 9223372036854775807) ∧ [AV.str s56, AV.int IntKind.i64 100, AV.int IntKind.i64 4] = [AV.str s57, AV.int IntKind.i64 m58, AV.int IntKind.i64 e59] ∧ ifP (!failsB s57 m58 e59) (AV.bool false = v) (∃ (s60 : List UInt8), [AV.str [51, 32, 13, 10, 97, 98, 99, 13, 10, 48, 13, 10, 13, 10]] = [AV.str s60] ∧ ∃ (s61 : List UInt8), ∃ (m62 : Int), ∃ (e63 : Int), List.length s61 ≤ 10000000 ∧ (-9223372036854775808 ≤ m62 ∧ m62 ≤ 9223372036854775807) ∧ [AV.str s60, AV.int IntKind.i64 100, AV.int IntKind.i64 4] = [AV.str s61, AV.int IntKind.i64 m62, AV.int IntKind.i64 e63] ∧ ifP (!failsB s61 m62 e63) (AV.bool false = v) (∃ (s64 : List UInt8), [AV.str [49, 50, 51, 52, 53, 54, 55, 56, 57, 13, 10]] = [AV.str s64] ∧ ∃ (s65 : List UInt8), ∃ (m66 : Int), ∃ (e67 : Int), List.length s65 ≤ 10000000 ∧ (-9223372036854775808 ≤ m66 ∧ m66 ≤ 9223372036854775807) ∧ [AV.str s64, AV.int IntKind.i64 100, AV.int IntKind.i64 4] = [AV.str s65, AV.int IntKind.i64 m66, AV.int IntKind.i64 e67] ∧ ifP (!failsB s65 m66 e67) (AV.bool false = v) (∃ (s68 : List UInt8), [AV.str [51, 59, 127, 13, 10, 97, 98, 99, 13, 10, 48, 13, 10, 13, 10]] = [AV.str s68] ∧ ∃ (s69 : List UInt8), ∃ (m70 : Int), ∃ (e71 : Int), List.length s69 ≤ 10000000 ∧ (-9223372036854775808 ≤ m70 ∧ m70 ≤ 9223372036854775807) ∧ [AV.str s68, AV.int IntKind.i64 100, AV.int IntKind.i64 4] = [AV.str s69, AV.int IntKind.i64 m70, AV.int IntKind.i64 e71] ∧ ifP (!failsB s69 m70 e71) (AV.bool false = v) (∃ (s72 : List UInt8), [AV.str [48, 13, 10, 65, 32, 98, 13, 10, 13, 10]] = [AV.str s72] ∧ ∃ (s73 : List UInt8), ∃ (m74 : Int), ∃ (e75 : Int), List.length s73 ≤ 10000000 ∧ (-9223372036854775808 ≤ m74 ∧ m74 ≤ 9223372036854775807) ∧ [AV.str s72, AV.int IntKind.i64 100, AV.int IntKind.i64 4] = [AV.str s73, AV.int IntKind.i64 m74, AV.int IntKind.i64 e75] ∧ ifP (!failsB s73 m74 e75) (AV.bool false = v) (∃ (s76 : List UInt8), [AV.str [51, 10, 97, 98, 99, 13, 10]] = [AV.str s76] ∧ ∃ (s77 : List UInt8), ∃ (m78 : Int), ∃ (e79 : Int), List.length s77 ≤ 10000000 ∧ (-9223372036854775808 ≤ m78 ∧ m78 ≤ 9223372036854775807) ∧ [AV.str s76, AV.int IntKind.i64 100, AV.int IntKind.i64 4] = [AV.str s77, AV.int IntKind.i64 m78, AV.int IntKind.i64 e79] ∧ ifP (!failsB s77 m78 e79) (AV.bool false = v) (ToEnd cfg 10 (bodyOf Tryd.f10) (RetIs Tryd.prog Tryd.f10 v) [Fm.code [0, 1, 1, 1, 1, 1, 1], Fm.code [1, 1, 1, 1, 1, 1, 1]] XT.normal [] [Blk.grow 8 1 9, Blk.grow 8 1 9])))))))))))))))))))) := by kernel_rfl
  exact unr_ok hT 100000 _ _ _ _ (e.mpr H)

end Go.Proofs.YtnncfdlpogjlkaaDoor
end

section
namespace Go.Proofs.YtnncfdlpogjlkaaDoor
open Go.Ai Go
set_option maxRecDepth 100000
set_option linter.unusedVariables false
theorem t10b {v : AV}  (hT : TabOk cfg (ctab [(24, Ai.trueC), (28, encC), (31, givesC), (32, failsC)])) (H :
    ∃ (cs1 : List AV),
  cs1 =
      List.replicate (Int.toNat 262144)
        (match Array.toList (Value.cells (Value.int IntKind.u8 0)) with
        | [v] => ofConst v
        | x => AV.top) ∧
    gAnd (cellsB (List.take 262144 (List.drop 0 cs1)))
      (∃ (s2 : List UInt8),
        ∃ (l3 : List Int),
          ∃ (sz4 : Nat),
            List.length s2 ≤ 1000000 ∧
              List.length l3 ≤ 1000 ∧
                (∀ (n5 : Int), n5 ∈ l3 → -9223372036854775808 ≤ n5 ∧ n5 ≤ 9223372036854775807) ∧
                  szOk sz4 1 (List.length l3) ∧
                    [AV.str (List.map cellV (List.take 262144 (List.drop 0 cs1))), AV.sl 0 [] none] = [AV.str s2, AV.sl sz4 (encI' l3) none] ∧
                      ∃ (s7 : List UInt8),
                        ∃ (m8 : Int),
                          ∃ (e9 : Int),
                            List.length s7 ≤ 10000000 ∧
                              (-9223372036854775808 ≤ m8 ∧ m8 ≤ 9223372036854775807) ∧
                                [AV.str [54, 53, 13, 10], AV.int IntKind.i64 100, AV.int IntKind.i64 3] = [AV.str s7, AV.int IntKind.i64 m8, AV.int IntKind.i64 e9] ∧
                                  ifP (failsB s7 m8 e9)
                                    (∃ (s10 : List UInt8),
                                      ∃ (m11 : Int),
                                        ∃ (e12 : Int),
                                          List.length s10 ≤ 10000000 ∧
                                            (-9223372036854775808 ≤ m11 ∧ m11 ≤ 9223372036854775807) ∧
                                              [AV.str [102, 102, 102, 102, 102, 102, 102, 102, 13, 10], AV.int IntKind.i64 100, AV.int IntKind.i64 3] = [AV.str s10, AV.int IntKind.i64 m11, AV.int IntKind.i64 e12] ∧
                                                ifP (failsB s10 m11 e12)
                                                  (∃ (s13 : List UInt8),
                                                    ∃ (m14 : Int),
                                                      ∃ (e15 : Int),
                                                        List.length s13 ≤ 10000000 ∧
                                                          (-9223372036854775808 ≤ m14 ∧ m14 ≤ 9223372036854775807) ∧
                                                            [AV.str [49, 13, 10, 120, 13, 10, 48, 13, 10, 13, 10], AV.int IntKind.i64 (-1), AV.int IntKind.i64 3] = [AV.str s13, AV.int IntKind.i64 m14, AV.int IntKind.i64 e15] ∧
                                                              ifP (failsB s13 m14 e15)
                                                                (∃ (cs16 : List AV),
                                                                  cs16 =
                                                                      List.replicate (Int.toNat 262144)
                                                                        (match Array.toList (Value.cells (Value.int IntKind.u8 0)) with
                                                                        | [v] => ofConst v
                                                                        | x => AV.top) ∧
                                                                    gAnd (cellsB (List.take 262144 (List.drop 0 cs16))) (∃ (s17 : List UInt8), ∃ (b18 : List UInt8), ∃ (m19 : Int), ∃ (u20 : Int), ∃ (t21 : Int), List.length s17 ≤ 10000000 ∧ (-9223372036854775808 ≤ m19 ∧ m19 ≤ 9223372036854775807) ∧ [AV.str (encA s2 l3), AV.int IntKind.i64 1099511627776, AV.str (List.map cellV (List.take 262144 (List.drop 0 cs16))), AV.int IntKind.i64 (↑(List.length (encA s2 l3)) : Int), AV.int IntKind.i64 0] = [AV.str s17, AV.int IntKind.i64 m19, AV.str b18, AV.int IntKind.i64 u20, AV.int IntKind.i64 t21] ∧ ifP (givesB s17 m19 b18 u20 t21) (∃ (s22 : List UInt8), ∃ (m23 : Int), ∃ (e24 : Int), List.length s22 ≤ 10000000 ∧ (-9223372036854775808 ≤ m23 ∧ m23 ≤ 9223372036854775807) ∧ [AV.str [52, 48, 48, 48, 49, 13, 10], AV.int IntKind.i64 1099511627776, AV.int IntKind.i64 3] = [AV.str s22, AV.int IntKind.i64 m23, AV.int IntKind.i64 e24] ∧ ifP (failsB s22 m23 e24) (∃ (s25 : List UInt8), ∃ (l26 : List Int), ∃ (sz27 : Nat), List.length s25 ≤ 1000000 ∧ List.length l26 ≤ 1000 ∧ (∀ (n28 : Int), n28 ∈ l26 → -9223372036854775808 ≤ n28 ∧ n28 ≤ 9223372036854775807) ∧ szOk sz27 1 (List.length l26) ∧ [AV.str [97, 98, 99, 100, 101, 102, 103, 104, 105, 106, 107], AV.sl 1 [[AV.int IntKind.i64 3], [AV.int IntKind.i64 0], [AV.int IntKind.i64 5]] none] = [AV.str s25, AV.sl sz27 (encI' l26) none] ∧ ifP (encA s25 l26 == [51, 13, 10, 97, 98, 99, 13, 10, 53, 13, 10, 100, 101, 102, 103, 104, 13, 10, 51, 13, 10, 105, 106, 107, 13, 10, 48, 13, 10, 13, 10]) (∃ (s30 : List UInt8), ∃ (l31 : List Int), ∃ (sz32 : Nat), List.length s30 ≤ 1000000 ∧ List.length l31 ≤ 1000 ∧ (∀ (n33 : Int), n33 ∈ l31 → -9223372036854775808 ≤ n33 ∧ n33 ≤ 9223372036854775807) ∧ szOk sz32 1 (List.length l31) ∧ [AV.str [], AV.sl 0 [] none] = [AV.str s30, AV.sl sz32 (encI' l31) none] ∧ ifP (encA s30 l31 == [48, 13, 10, 13, 10]) (∃ (s35 : List UInt8), ∃ (l36 : List Int), ∃ (sz37 : Nat), List.length s35 ≤ 1000000 ∧ List.length l36 ≤ 1000 ∧ (∀ (n38 : Int), n38 ∈ l36 → -9223372036854775808 ≤ n38 ∧ n38 ≤ 9223372036854775807) ∧ szOk sz37 1 (List.length l36) ∧ [AV.str [97, 98, 99], AV.sl 1 [[AV.int IntKind.i64 0], [AV.int IntKind.i64 (-5)]] none] = [AV.str s35, AV.sl sz37 (encI' l36) none] ∧ ∃ (s40 : List UInt8), ∃ (l41 : List Int), ∃ (sz42 : Nat), List.length s40 ≤ 1000000 ∧ List.length l41 ≤ 1000 ∧ (∀ (n43 : Int), n43 ∈ l41 → -9223372036854775808 ≤ n43 ∧ n43 ≤ 9223372036854775807) ∧ szOk sz42 1 (List.length l41) ∧ [AV.str [97, 98, 99], AV.sl 0 [] none] = [AV.str s40, AV.sl sz42 (encI' l41) none] ∧ ifP (encA s35 l36 == encA s40 l41) (true = true ∧ AV.bool true = v) (AV.bool false = v)) (AV.bool false = v)) (AV.bool false = v)) (AV.bool false = v)) (AV.bool false = v)))
                                                                (AV.bool false = v))
                                                  (AV.bool false = v))
                                    (AV.bool false = v))) :
    ToEnd cfg 10 (bodyOf Tryd.f10) (RetIs Tryd.prog Tryd.f10 v) ([.code [0,1,1,1,1,1,1], .code [1,1,1,1,1,1,1]]) .normal ([]) ([Blk.grow 8 1 9, Blk.grow 8 1 9]) := by
  have e : unr cfg 10 (bodyOf Tryd.f10) (ctab [(24, Ai.trueC), (28, encC), (31, givesC), (32, failsC)]) ⟨[], [([0, 0, 0, 1, 0, 0, 1, 0, 1, 1, 1], 2, [.str]), ([0, 0, 0, 1, 0, 0, 1, 0, 1, 1, 1, 1, 1], 2, [.str]), ([0,1,1,1,1,1,1], 0, [.av]), ([0,1,1,1,1,1,1,1], 9, [.av])]⟩ (RetIs Tryd.prog Tryd.f10 v) 100000 ([.code [0,1,1,1,1,1,1], .code [1,1,1,1,1,1,1]]) .normal ([]) ([Blk.grow 8 1 9, Blk.grow 8 1 9]) =
    (∃ (cs1 : List AV),
  cs1 =
      List.replicate (Int.toNat 262144)
        (match Array.toList (Value.cells (Value.int IntKind.u8 0)) with
        | [v] => ofConst v
        | x => AV.top) ∧
    gAnd (cellsB (List.take 262144 (List.drop 0 cs1)))
      (∃ (s2 : List UInt8),
        ∃ (l3 : List Int),
          ∃ (sz4 : Nat),
            List.length s2 ≤ 1000000 ∧
              List.length l3 ≤ 1000 ∧
                (∀ (n5 : Int), n5 ∈ l3 → -9223372036854775808 ≤ n5 ∧ n5 ≤ 9223372036854775807) ∧
                  szOk sz4 1 (List.length l3) ∧
                    [AV.str (List.map cellV (List.take 262144 (List.drop 0 cs1))), AV.sl 0 [] none] = [AV.str s2, AV.sl sz4 (encI' l3) none] ∧
                      ∃ (s7 : List UInt8),
                        ∃ (m8 : Int),
                          ∃ (e9 : Int),
                            List.length s7 ≤ 10000000 ∧
                              (-9223372036854775808 ≤ m8 ∧ m8 ≤ 9223372036854775807) ∧
                                [AV.str [54, 53, 13, 10], AV.int IntKind.i64 100, AV.int IntKind.i64 3] = [AV.str s7, AV.int IntKind.i64 m8, AV.int IntKind.i64 e9] ∧
                                  ifP (failsB s7 m8 e9)
                                    (∃ (s10 : List UInt8),
                                      ∃ (m11 : Int),
                                        ∃ (e12 : Int),
                                          List.length s10 ≤ 10000000 ∧
                                            (-9223372036854775808 ≤ m11 ∧ m11 ≤ 9223372036854775807) ∧
                                              [AV.str [102, 102, 102, 102, 102, 102, 102, 102, 13, 10], AV.int IntKind.i64 100, AV.int IntKind.i64 3] = [AV.str s10, AV.int IntKind.i64 m11, AV.int IntKind.i64 e12] ∧
                                                ifP (failsB s10 m11 e12)
                                                  (∃ (s13 : List UInt8),
                                                    ∃ (m14 : Int),
                                                      ∃ (e15 : Int),
                                                        List.length s13 ≤ 10000000 ∧
                                                          (-9223372036854775808 ≤ m14 ∧ m14 ≤ 9223372036854775807) ∧
                                                            [AV.str [49, 13, 10, 120, 13, 10, 48, 13, 10, 13, 10], AV.int IntKind.i64 (-1), AV.int IntKind.i64 3] = [AV.str s13, AV.int IntKind.i64 m14, AV.int IntKind.i64 e15] ∧
                                                              ifP (failsB s13 m14 e15)
                                                                (∃ (cs16 : List AV),
                                                                  cs16 =
                                                                      List.replicate (Int.toNat 262144)
                                                                        (match Array.toList (Value.cells (Value.int IntKind.u8 0)) with
                                                                        | [v] => ofConst v
                                                                        | x => AV.top) ∧
                                                                    gAnd (cellsB (List.take 262144 (List.drop 0 cs16))) (∃ (s17 : List UInt8), ∃ (b18 : List UInt8), ∃ (m19 : Int), ∃ (u20 : Int), ∃ (t21 : Int), List.length s17 ≤ 10000000 ∧ (-9223372036854775808 ≤ m19 ∧ m19 ≤ 9223372036854775807) ∧ [AV.str (encA s2 l3), AV.int IntKind.i64 1099511627776, AV.str (List.map cellV (List.take 262144 (List.drop 0 cs16))), AV.int IntKind.i64 (↑(List.length (encA s2 l3)) : Int), AV.int IntKind.i64 0] = [AV.str s17, AV.int IntKind.i64 m19, AV.str b18, AV.int IntKind.i64 u20, AV.int IntKind.i64 t21] ∧ ifP (givesB s17 m19 b18 u20 t21) (∃ (s22 : List UInt8), ∃ (m23 : Int), ∃ (e24 : Int), List.length s22 ≤ 10000000 ∧ (-9223372036854775808 ≤ m23 ∧ m23 ≤ 9223372036854775807) ∧ [AV.str [52, 48, 48, 48, 49, 13, 10], AV.int IntKind.i64 1099511627776, AV.int IntKind.i64 3] = [AV.str s22, AV.int IntKind.i64 m23, AV.int IntKind.i64 e24] ∧ ifP (failsB s22 m23 e24) (∃ (s25 : List UInt8), ∃ (l26 : List Int), ∃ (sz27 : Nat), List.length s25 ≤ 1000000 ∧ List.length l26 ≤ 1000 ∧ (∀ (n28 : Int), n28 ∈ l26 → -9223372036854775808 ≤ n28 ∧ n28 ≤ 9223372036854775807) ∧ szOk sz27 1 (List.length l26) ∧ [AV.str [97, 98, 99, 100, 101, 102, 103, 104, 105, 106, 107], AV.sl 1 [[AV.int IntKind.i64 3], [AV.int IntKind.i64 0], [AV.int IntKind.i64 5]] none] = [AV.str s25, AV.sl sz27 (encI' l26) none] ∧ ifP (encA s25 l26 == [51, 13, 10, 97, 98, 99, 13, 10, 53, 13, 10, 100, 101, 102, 103, 104, 13, 10, 51, 13, 10, 105, 106, 107, 13, 10, 48, 13, 10, 13, 10]) (∃ (s30 : List UInt8), ∃ (l31 : List Int), ∃ (sz32 : Nat), List.length s30 ≤ 1000000 ∧ List.length l31 ≤ 1000 ∧ (∀ (n33 : Int), n33 ∈ l31 → -9223372036854775808 ≤ n33 ∧ n33 ≤ 9223372036854775807) ∧ szOk sz32 1 (List.length l31) ∧ [AV.str [], AV.sl 0 [] none] = [AV.str s30, AV.sl sz32 (encI' l31) none] ∧ ifP (encA s30 l31 == [48, 13, 10, 13, 10]) (∃ (s35 : List UInt8), ∃ (l36 : List Int), ∃ (sz37 : Nat), List.length s35 ≤ 1000000 ∧ List.length l36 ≤ 1000 ∧ (∀ (n38 : Int), n38 ∈ l36 → -9223372036854775808 ≤ n38 ∧ n38 ≤ 9223372036854775807) ∧ szOk sz37 1 (List.length l36) ∧ [AV.str [97, 98, 99], AV.sl 1 [[AV.int IntKind.i64 0], [AV.int IntKind.i64 (-5)]] none] = [AV.str s35, AV.sl sz37 (encI' l36) none] ∧ ∃ (s40 : List UInt8), ∃ (l41 : List Int), ∃ (sz42 : Nat), List.length s40 ≤ 1000000 ∧ List.length l41 ≤ 1000 ∧ (∀ (n43 : Int), n43 ∈ l41 → -9223372036854775808 ≤ n43 ∧ n43 ≤ 9223372036854775807) ∧ szOk sz42 1 (List.length l41) ∧ [AV.str [97, 98, 99], AV.sl 0 [] none] = [AV.str s40, AV.sl sz42 (encI' l41) none] ∧ ifP (encA s35 l36 == encA s40 l41) (true = true ∧ AV.bool true = v) (AV.bool false = v)) (AV.bool false = v)) (AV.bool false = v)) (AV.bool false = v)) (AV.bool false = v)))
                                                                (AV.bool false = v))
                                                  (AV.bool false = v))
                                    (AV.bool false = v))) := by kernel_rfl
  exact unr_ok hT 100000 _ _ _ _ (e.mpr H)

end Go.Proofs.YtnncfdlpogjlkaaDoor
end

section
namespace Go.Proofs.YtnncfdlpogjlkaaDoor
open Go.Ai Go
set_option linter.unusedSimpArgs false
set_option linter.unusedVariables false
set_option linter.unnecessarySimpa false
set_option maxRecDepth 100000

theorem pf10 : pureFn cfg 10 Tryd.f10 := ⟨by kernel_rfl, by kernel_rfl, by kernel_rfl, by kernel_rfl, by kernel_rfl, by kernel_rfl⟩
theorem ifP_no {b : Bool} {p q : Prop} (h : b = false) (k : q) : ifP b p q := by subst h; exact k
theorem ifP_yes {b : Bool} {p q : Prop} (h : b = true) (k : p) : ifP b p q := by subst h; exact k
theorem give_no {s b : List UInt8} {m u t : Int} {p q : Prop} (h : givesB s m b u t = true) (k : q) : ifP (!givesB s m b u t) p q := by rw [h]; exact k
theorem fail_no {s : List UInt8} {m e : Int} {p q : Prop} (h : failsB s m e = true) (k : q) : ifP (!failsB s m e) p q := by rw [h]; exact k
theorem many (n : Nat) : ∃ z : List UInt8, z.length = n ∧ bc z = List.replicate n (AV.int .u8 0) := ⟨List.replicate n 0, by simp, by simp [bc]⟩
theorem cells_bc {z : List UInt8} {n : Nat} (h : z.length = n) : cellsB (List.take n (List.drop 0 (bc z))) = true ∧ List.map cellV (List.take n (List.drop 0 (bc z))) = z := by
  rw [List.drop_zero, List.take_of_length_le (by rw [bc_len]; omega)]
  exact ⟨cellsB_bc z, cellV_bc z⟩
theorem tab10 : TabOk cfg (ctab [(24, Ai.trueC), (28, encC), (31, givesC), (32, failsC)]) := ctab_ok (ctab_cons c24 (ctab_cons c28 (ctab_cons c31 (ctab_cons c32 ctab_nil))))
theorem gives_big {z : List UInt8} {n : Nat} (h : z.length = n) (hn : n = 262144) : givesB (encA z []) 1099511627776 z ((encA z []).length : Nat) 0 = true := by
  have := decA_enc (s := z) [] [] (most := 1099511627776) (by omega)
  rw [List.append_nil, if_pos (by unfold clip; omega)] at this
  unfold givesB
  rw [this]
  simp
theorem c10b {n : Nat} (hn : n = 262144) {z : List UInt8} (hz : z.length = n) (hc : bc z = List.replicate n (AV.int .u8 0)) :
    ToEnd cfg 10 (bodyOf Tryd.f10) (RetIs Tryd.prog Tryd.f10 (.bool true)) ([.code [0,1,1,1,1,1,1], .code [1,1,1,1,1,1,1]]) .normal ([]) ([Blk.grow 8 1 9, Blk.grow 8 1 9]) := by
  subst hn
  obtain ⟨k1, k2⟩ := cells_bc hz
  have hl := encA_len [] (s := z) (by omega)
  refine t10b tab10 ⟨bc z, hc, ?_⟩
  rw [k1, k2]
  refine gAnd_intro rfl ⟨z, [], 0, by omega, by simp, by simp, .inr rfl, rfl, ?_⟩
  refine ⟨_, _, _, by decide, by decide, rfl, ifP_yes (by kernel_rfl) ?_⟩
  refine ⟨_, _, _, by decide, by decide, rfl, ifP_yes (by kernel_rfl) ?_⟩
  refine ⟨_, _, _, by decide, by decide, rfl, ifP_yes (by kernel_rfl) ?_⟩
  refine ⟨bc z, hc, ?_⟩
  rw [k1, k2]
  refine gAnd_intro rfl ⟨_, _, _, _, _, ?_, by omega, rfl, ifP_yes (gives_big hz rfl) ?_⟩
  · omega
  refine ⟨_, _, _, by decide, by decide, rfl, ifP_yes (by kernel_rfl) ?_⟩
  refine ⟨_, [3, 0, 5], 1, by decide, by decide, by decide, .inl rfl, rfl, ifP_yes (by kernel_rfl) ?_⟩
  refine ⟨[], [], 0, by decide, by decide, by simp, .inr rfl, rfl, ifP_yes (by kernel_rfl) ?_⟩
  refine ⟨_, [0, -5], 1, by decide, by decide, by decide, .inl rfl, rfl, ?_⟩
  exact ⟨_, [], 0, by decide, by decide, by simp, .inr rfl, rfl, ifP_yes (by kernel_rfl) ⟨rfl, rfl⟩⟩
theorem c10 : COk cfg 10 Ai.trueC := by
  refine cok_pure pf10 fun vs h K ht => ?_
  obtain ⟨hv, hk⟩ := ht
  have hv : vs = [] := List.isEmpty_iff.1 hv
  subst hv
  refine ⟨_, hk, t10 tab10 ?_⟩
  refine ⟨_, _, _, _, _, by decide, by decide, rfl, give_no (by kernel_rfl) ?_⟩
  refine ⟨_, _, _, _, _, by decide, by decide, rfl, give_no (by kernel_rfl) ?_⟩
  refine ⟨_, _, _, _, _, by decide, by decide, rfl, give_no (by kernel_rfl) ?_⟩
  refine ⟨_, rfl, _, _, _, by decide, by decide, rfl, fail_no (by kernel_rfl) ?_⟩
  refine ⟨_, rfl, _, _, _, by decide, by decide, rfl, fail_no (by kernel_rfl) ?_⟩
  refine ⟨_, rfl, _, _, _, by decide, by decide, rfl, fail_no (by kernel_rfl) ?_⟩
  refine ⟨_, rfl, _, _, _, by decide, by decide, rfl, fail_no (by kernel_rfl) ?_⟩
  refine ⟨_, rfl, _, _, _, by decide, by decide, rfl, fail_no (by kernel_rfl) ?_⟩
  refine ⟨_, rfl, _, _, _, by decide, by decide, rfl, fail_no (by kernel_rfl) ?_⟩
  refine ⟨_, rfl, _, _, _, by decide, by decide, rfl, fail_no (by kernel_rfl) ?_⟩
  refine ⟨_, rfl, _, _, _, by decide, by decide, rfl, fail_no (by kernel_rfl) ?_⟩
  refine ⟨_, rfl, _, _, _, by decide, by decide, rfl, fail_no (by kernel_rfl) ?_⟩
  refine ⟨_, rfl, _, _, _, by decide, by decide, rfl, fail_no (by kernel_rfl) ?_⟩
  refine ⟨_, rfl, _, _, _, by decide, by decide, rfl, fail_no (by kernel_rfl) ?_⟩
  refine ⟨_, rfl, _, _, _, by decide, by decide, rfl, fail_no (by kernel_rfl) ?_⟩
  refine ⟨_, rfl, _, _, _, by decide, by decide, rfl, fail_no (by kernel_rfl) ?_⟩
  refine ⟨_, rfl, _, _, _, by decide, by decide, rfl, fail_no (by kernel_rfl) ?_⟩
  refine ⟨_, rfl, _, _, _, by decide, by decide, rfl, fail_no (by kernel_rfl) ?_⟩
  refine ⟨_, rfl, _, _, _, by decide, by decide, rfl, fail_no (by kernel_rfl) ?_⟩
  obtain ⟨z, h1, h2⟩ := many 262144
  exact c10b rfl h1 h2
end Go.Proofs.YtnncfdlpogjlkaaDoor
end
