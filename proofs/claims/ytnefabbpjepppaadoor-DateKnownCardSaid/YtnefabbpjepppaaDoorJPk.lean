/-
  Contracts for the chapter's examples. No statement about the program is made here.
  Runs of functions of dates, printed by a home tool; each is the kernel's word.
  DateKnown's contract: the chapter's examples. Printed by a home tool.
-/
import Derived.Test.YtnefabbpjepppaaDoorJDt
import Derived.Test.YtnefabbpjepppaaDoorCfg
import Derived.Test.YtnefabbpjepppaaDoorJPd
section
namespace Go.Ai
open Go.RowKit
set_option linter.unusedVariables false
noncomputable def noB (s : List UInt8) (now : Int) : Bool := decide ((parseP s now).1 = 0) && decide ((parseP s now).2 = 4)
def noC : Con := fun vs h K => ∃ (s : List UInt8) (now : Int), vs = [.str s, .int .i64 now] ∧ K (.bool (noB s now)) h
def readsC : Con := fun vs h K => ∃ (s : List UInt8) (now : Int), vs = [.str s, .int .i64 now] ∧ K (.bool true) h
end Go.Ai
end

section
namespace Go.Proofs.YtnefabbpjepppaaDoor
open Go.Ai Go
set_option maxRecDepth 100000
set_option linter.unusedVariables false
theorem t6 {v : AV} (hT : TabOk cfg (ctab [(10, trueC), (11, parseC), (13, putC), (19, noC), (20, isTC)])) (H :
    ∃ (s1 : List UInt8),
  ∃ (now2 : Int),
    [AV.str [77, 111, 110, 44, 32, 48, 54, 32, 78, 111, 118, 32, 49, 57, 57, 52, 32, 48, 56, 58, 52, 57, 58, 51, 55, 32, 71, 77, 84], AV.int IntKind.i64 784111777] = [AV.str s1, AV.int IntKind.i64 now2] ∧
      ifP (!noB s1 now2) (AV.bool false = v)
        (∃ (s3 : List UInt8),
          ∃ (now4 : Int),
            [AV.str [83, 117, 110, 44, 32, 48, 54, 32, 78, 111, 118, 32, 49, 57, 57, 52, 32, 48, 56, 58, 52, 57, 58, 54, 48, 32, 71, 77, 84], AV.int IntKind.i64 784111777] = [AV.str s3, AV.int IntKind.i64 now4] ∧
              ifP (!noB s3 now4) (AV.bool false = v)
                (∃ (s5 : List UInt8),
                  ∃ (now6 : Int),
                    [AV.str [83, 117, 110, 44, 32, 54, 32, 78, 111, 118, 32, 49, 57, 57, 52, 32, 48, 56, 58, 52, 57, 58, 51, 55, 32, 71, 77, 84], AV.int IntKind.i64 784111777] = [AV.str s5, AV.int IntKind.i64 now6] ∧
                      ifP (!noB s5 now6) (AV.bool false = v)
                        (∃ (s7 : List UInt8),
                          ∃ (now8 : Int),
                            [AV.str [115, 117, 110, 44, 32, 48, 54, 32, 78, 111, 118, 32, 49, 57, 57, 52, 32, 48, 56, 58, 52, 57, 58, 51, 55, 32, 71, 77, 84], AV.int IntKind.i64 784111777] = [AV.str s7, AV.int IntKind.i64 now8] ∧
                              ifP (!noB s7 now8) (AV.bool false = v)
                                (∃ (s9 : List UInt8),
                                  ∃ (now10 : Int),
                                    [AV.str [83, 117, 110, 44, 32, 48, 54, 32, 78, 111, 118, 32, 49, 57, 57, 52, 32, 48, 56, 58, 52, 57, 58, 51, 55, 32, 85, 84, 67], AV.int IntKind.i64 784111777] = [AV.str s9, AV.int IntKind.i64 now10] ∧
                                      ifP (!noB s9 now10) (AV.bool false = v)
                                        (∃ (s11 : List UInt8),
                                          ∃ (now12 : Int),
                                            [AV.str [83, 117, 110, 44, 32, 48, 54, 32, 78, 111, 118, 32, 49, 57, 57, 52, 32, 48, 56, 58, 52, 57, 58, 51, 55, 32, 71, 77, 84, 32], AV.int IntKind.i64 784111777] = [AV.str s11, AV.int IntKind.i64 now12] ∧
                                              ifP (!noB s11 now12) (AV.bool false = v)
                                                (∃ (s13 : List UInt8),
                                                  ∃ (now14 : Int),
                                                    [AV.str [], AV.int IntKind.i64 784111777] = [AV.str s13, AV.int IntKind.i64 now14] ∧
                                                      ifP (!noB s13 now14) (AV.bool false = v)
                                                        (∃ (s15 : List UInt8),
                                                          ∃ (now16 : Int),
                                                            ∃ (want17 : Int),
                                                              [AV.str [84, 104, 117, 44, 32, 50, 57, 32, 70, 101, 98, 32, 50, 48, 50, 52, 32, 48, 48, 58, 48, 48, 58, 48, 48, 32, 71, 77, 84], AV.int IntKind.i64 784111777, AV.int IntKind.i64 1709164800] = [AV.str s15, AV.int IntKind.i64 now16, AV.int IntKind.i64 want17] ∧
                                                                ifP (!isB s15 now16 want17) (AV.bool false = v)
                                                                  (∃ (s18 : List UInt8),
                                                                    ∃ (now19 : Int),
                                                                      [AV.str [84, 104, 117, 44, 32, 50, 57, 32, 70, 101, 98, 32, 50, 48, 50, 51, 32, 48, 48, 58, 48, 48, 58, 48, 48, 32, 71, 77, 84], AV.int IntKind.i64 784111777] = [AV.str s18, AV.int IntKind.i64 now19] ∧
                                                                        ifP (!noB s18 now19) (AV.bool false = v)
                                                                          (∃ (s20 : List UInt8),
                                                                            ∃ (now21 : Int),
                                                                              [AV.str [83, 97, 116, 117, 114, 100, 97, 121, 44, 32, 48, 54, 45, 78, 111, 118, 45, 52, 52, 32, 48, 48, 58, 48, 48, 58, 48, 48, 32, 71, 77, 84], AV.int IntKind.i64 784111777] = [AV.str s20, AV.int IntKind.i64 now21] ∧ ifP (!noB s20 now21) (AV.bool false = v) (∃ (s22 : List UInt8), ∃ (now23 : Int), [AV.str [83, 97, 116, 117, 114, 100, 97, 121, 44, 32, 48, 54, 45, 78, 111, 118, 45, 52, 52, 32, 48, 48, 58, 48, 48, 58, 48, 48, 32, 71, 77, 84], AV.int IntKind.i64 0] = [AV.str s22, AV.int IntKind.i64 now23] ∧ ifP (!noB s22 now23) (AV.bool false = v) (∃ (s24 : List UInt8), ∃ (now25 : Int), ∃ (want26 : Int), [AV.str [83, 117, 110, 32, 78, 111, 118, 32, 48, 54, 32, 48, 56, 58, 52, 57, 58, 51, 55, 32, 49, 57, 57, 52], AV.int IntKind.i64 784111777, AV.int IntKind.i64 784111777] = [AV.str s24, AV.int IntKind.i64 now25, AV.int IntKind.i64 want26] ∧ ifP (!isB s24 now25 want26) (AV.bool false = v) (∃ (s27 : List UInt8), ∃ (now28 : Int), [AV.str [83, 117, 110, 32, 78, 111, 118, 32, 32, 48, 32, 48, 56, 58, 52, 57, 58, 51, 55, 32, 49, 57, 57, 52], AV.int IntKind.i64 784111777] = [AV.str s27, AV.int IntKind.i64 now28] ∧ ifP (!noB s27 now28) (AV.bool false = v) (∃ (s29 : List UInt8), ∃ (now30 : Int), [AV.str [83, 117, 110, 44, 32, 48, 54, 32, 78, 111, 118, 32, 49, 57, 57, 52, 32, 50, 52, 58, 48, 48, 58, 48, 48, 32, 71, 77, 84], AV.int IntKind.i64 784111777] = [AV.str s29, AV.int IntKind.i64 now30] ∧ ifP (!noB s29 now30) (AV.bool false = v) (∃ (s31 : List UInt8), ∃ (now32 : Int), [AV.str [87, 101, 100, 44, 32, 51, 49, 32, 68, 101, 99, 32, 49, 57, 54, 57, 32, 50, 51, 58, 53, 57, 58, 53, 57, 32, 71, 77, 84], AV.int IntKind.i64 784111777] = [AV.str s31, AV.int IntKind.i64 now32] ∧ ifP (!noB s31 now32) (AV.bool false = v) (∃ (s33 : List UInt8), ∃ (now34 : Int), [AV.str [83, 117, 110, 100, 97, 121, 44, 32, 48, 54, 45, 78, 111, 118, 45, 52, 52, 32, 48, 48, 58, 48, 48, 58, 48, 48, 32, 71, 77, 84], AV.int IntKind.i64 784111777] = [AV.str s33, AV.int IntKind.i64 now34] ∧ ∃ (s35 : List UInt8), ∃ (now36 : Int), [AV.str [70, 114, 105, 100, 97, 121, 44, 32, 51, 49, 45, 68, 101, 99, 45, 57, 57, 32, 50, 51, 58, 53, 57, 58, 53, 57, 32, 71, 77, 84], AV.int IntKind.i64 253402300799] = [AV.str s35, AV.int IntKind.i64 now36] ∧ ∃ (s37 : List UInt8), ∃ (now38 : Int), [AV.str [70, 114, 105, 100, 97, 121, 44, 32, 51, 49, 45, 68, 101, 99, 45, 57, 57, 32, 50, 51, 58, 53, 57, 58, 53, 57, 32, 71, 77, 84], AV.int IntKind.i64 (-5)] = [AV.str s37, AV.int IntKind.i64 now38] ∧ ifP ((↑(Prod.fst (parseP s33 now34)) : Int) == 2362003200) (ifP ((↑(Prod.snd (parseP s33 now34)) : Int) == 0) (ifP ((↑(Prod.fst (parseP s35 now36)) : Int) == 253402300799) (ifP ((↑(Prod.snd (parseP s35 now36)) : Int) == 0) (ifP ((↑(Prod.fst (parseP s37 now38)) : Int) == 946684799) (ifP ((↑(Prod.snd (parseP s37 now38)) : Int) == 0) (∃ (t39 : Int), [AV.int IntKind.i64 784111777] = [AV.int IntKind.i64 t39] ∧ ifP (putS t39 == [83, 117, 110, 44, 32, 48, 54, 32, 78, 111, 118, 32, 49, 57, 57, 52, 32, 48, 56, 58, 52, 57, 58, 51, 55, 32, 71, 77, 84]) (∃ (t40 : Int), [AV.int IntKind.i64 253402300799] = [AV.int IntKind.i64 t40] ∧ ifP (putS t40 == [70, 114, 105, 44, 32, 51, 49, 32, 68, 101, 99, 32, 57, 57, 57, 57, 32, 50, 51, 58, 53, 57, 58, 53, 57, 32, 71, 77, 84]) (∃ (t41 : Int), [AV.int IntKind.i64 (-1)] = [AV.int IntKind.i64 t41] ∧ ifP (putS t41 == []) (∃ (t42 : Int), [AV.int IntKind.i64 253402300800] = [AV.int IntKind.i64 t42] ∧ ifP (putS t42 == []) (∃ (t43 : Int), [AV.int IntKind.i64 1709164800] = [AV.int IntKind.i64 t43] ∧ ifP (putS t43 == [84, 104, 117, 44, 32, 50, 57, 32, 70, 101, 98, 32, 50, 48, 50, 52, 32, 48, 48, 58, 48, 48, 58, 48, 48, 32, 71, 77, 84]) (true = true ∧ AV.bool true = v) (AV.bool false = v)) (AV.bool false = v)) (AV.bool false = v)) (AV.bool false = v)) (AV.bool false = v)) (AV.bool false = v)) (AV.bool false = v)) (AV.bool false = v)) (AV.bool false = v)) (AV.bool false = v)) (AV.bool false = v))))))))))))))))) :
    ToEnd cfg 6 (bodyOf Tryd.f6) (RetIs Tryd.prog Tryd.f6 v) ([.code []]) .normal ([]) ([]) := by
  have e : unr cfg 6 (bodyOf Tryd.f6) (ctab [(10, trueC), (11, parseC), (13, putC), (19, noC), (20, isTC)]) ⟨[], []⟩ (RetIs Tryd.prog Tryd.f6 v) 100000 ([.code []]) .normal ([]) ([]) =
    (∃ (s1 : List UInt8),
  ∃ (now2 : Int),
    [AV.str [77, 111, 110, 44, 32, 48, 54, 32, 78, 111, 118, 32, 49, 57, 57, 52, 32, 48, 56, 58, 52, 57, 58, 51, 55, 32, 71, 77, 84], AV.int IntKind.i64 784111777] = [AV.str s1, AV.int IntKind.i64 now2] ∧
      ifP (!noB s1 now2) (AV.bool false = v)
        (∃ (s3 : List UInt8),
          ∃ (now4 : Int),
            [AV.str [83, 117, 110, 44, 32, 48, 54, 32, 78, 111, 118, 32, 49, 57, 57, 52, 32, 48, 56, 58, 52, 57, 58, 54, 48, 32, 71, 77, 84], AV.int IntKind.i64 784111777] = [AV.str s3, AV.int IntKind.i64 now4] ∧
              ifP (!noB s3 now4) (AV.bool false = v)
                (∃ (s5 : List UInt8),
                  ∃ (now6 : Int),
                    [AV.str [83, 117, 110, 44, 32, 54, 32, 78, 111, 118, 32, 49, 57, 57, 52, 32, 48, 56, 58, 52, 57, 58, 51, 55, 32, 71, 77, 84], AV.int IntKind.i64 784111777] = [AV.str s5, AV.int IntKind.i64 now6] ∧
                      ifP (!noB s5 now6) (AV.bool false = v)
                        (∃ (s7 : List UInt8),
                          ∃ (now8 : Int),
                            [AV.str [115, 117, 110, 44, 32, 48, 54, 32, 78, 111, 118, 32, 49, 57, 57, 52, 32, 48, 56, 58, 52, 57, 58, 51, 55, 32, 71, 77, 84], AV.int IntKind.i64 784111777] = [AV.str s7, AV.int IntKind.i64 now8] ∧
                              ifP (!noB s7 now8) (AV.bool false = v)
                                (∃ (s9 : List UInt8),
                                  ∃ (now10 : Int),
                                    [AV.str [83, 117, 110, 44, 32, 48, 54, 32, 78, 111, 118, 32, 49, 57, 57, 52, 32, 48, 56, 58, 52, 57, 58, 51, 55, 32, 85, 84, 67], AV.int IntKind.i64 784111777] = [AV.str s9, AV.int IntKind.i64 now10] ∧
                                      ifP (!noB s9 now10) (AV.bool false = v)
                                        (∃ (s11 : List UInt8),
                                          ∃ (now12 : Int),
                                            [AV.str [83, 117, 110, 44, 32, 48, 54, 32, 78, 111, 118, 32, 49, 57, 57, 52, 32, 48, 56, 58, 52, 57, 58, 51, 55, 32, 71, 77, 84, 32], AV.int IntKind.i64 784111777] = [AV.str s11, AV.int IntKind.i64 now12] ∧
                                              ifP (!noB s11 now12) (AV.bool false = v)
                                                (∃ (s13 : List UInt8),
                                                  ∃ (now14 : Int),
                                                    [AV.str [], AV.int IntKind.i64 784111777] = [AV.str s13, AV.int IntKind.i64 now14] ∧
                                                      ifP (!noB s13 now14) (AV.bool false = v)
                                                        (∃ (s15 : List UInt8),
                                                          ∃ (now16 : Int),
                                                            ∃ (want17 : Int),
                                                              [AV.str [84, 104, 117, 44, 32, 50, 57, 32, 70, 101, 98, 32, 50, 48, 50, 52, 32, 48, 48, 58, 48, 48, 58, 48, 48, 32, 71, 77, 84], AV.int IntKind.i64 784111777, AV.int IntKind.i64 1709164800] = [AV.str s15, AV.int IntKind.i64 now16, AV.int IntKind.i64 want17] ∧
                                                                ifP (!isB s15 now16 want17) (AV.bool false = v)
                                                                  (∃ (s18 : List UInt8),
                                                                    ∃ (now19 : Int),
                                                                      [AV.str [84, 104, 117, 44, 32, 50, 57, 32, 70, 101, 98, 32, 50, 48, 50, 51, 32, 48, 48, 58, 48, 48, 58, 48, 48, 32, 71, 77, 84], AV.int IntKind.i64 784111777] = [AV.str s18, AV.int IntKind.i64 now19] ∧
                                                                        ifP (!noB s18 now19) (AV.bool false = v)
                                                                          (∃ (s20 : List UInt8),
                                                                            ∃ (now21 : Int),
                                                                              [AV.str [83, 97, 116, 117, 114, 100, 97, 121, 44, 32, 48, 54, 45, 78, 111, 118, 45, 52, 52, 32, 48, 48, 58, 48, 48, 58, 48, 48, 32, 71, 77, 84], AV.int IntKind.i64 784111777] = [AV.str s20, AV.int IntKind.i64 now21] ∧ ifP (!noB s20 now21) (AV.bool false = v) (∃ (s22 : List UInt8), ∃ (now23 : Int), [AV.str [83, 97, 116, 117, 114, 100, 97, 121, 44, 32, 48, 54, 45, 78, 111, 118, 45, 52, 52, 32, 48, 48, 58, 48, 48, 58, 48, 48, 32, 71, 77, 84], AV.int IntKind.i64 0] = [AV.str s22, AV.int IntKind.i64 now23] ∧ ifP (!noB s22 now23) (AV.bool false = v) (∃ (s24 : List UInt8), ∃ (now25 : Int), ∃ (want26 : Int), [AV.str [83, 117, 110, 32, 78, 111, 118, 32, 48, 54, 32, 48, 56, 58, 52, 57, 58, 51, 55, 32, 49, 57, 57, 52], AV.int IntKind.i64 784111777, AV.int IntKind.i64 784111777] = [AV.str s24, AV.int IntKind.i64 now25, AV.int IntKind.i64 want26] ∧ ifP (!isB s24 now25 want26) (AV.bool false = v) (∃ (s27 : List UInt8), ∃ (now28 : Int), [AV.str [83, 117, 110, 32, 78, 111, 118, 32, 32, 48, 32, 48, 56, 58, 52, 57, 58, 51, 55, 32, 49, 57, 57, 52], AV.int IntKind.i64 784111777] = [AV.str s27, AV.int IntKind.i64 now28] ∧ ifP (!noB s27 now28) (AV.bool false = v) (∃ (s29 : List UInt8), ∃ (now30 : Int), [AV.str [83, 117, 110, 44, 32, 48, 54, 32, 78, 111, 118, 32, 49, 57, 57, 52, 32, 50, 52, 58, 48, 48, 58, 48, 48, 32, 71, 77, 84], AV.int IntKind.i64 784111777] = [AV.str s29, AV.int IntKind.i64 now30] ∧ ifP (!noB s29 now30) (AV.bool false = v) (∃ (s31 : List UInt8), ∃ (now32 : Int), [AV.str [87, 101, 100, 44, 32, 51, 49, 32, 68, 101, 99, 32, 49, 57, 54, 57, 32, 50, 51, 58, 53, 57, 58, 53, 57, 32, 71, 77, 84], AV.int IntKind.i64 784111777] = [AV.str s31, AV.int IntKind.i64 now32] ∧ ifP (!noB s31 now32) (AV.bool false = v) (∃ (s33 : List UInt8), ∃ (now34 : Int), [AV.str [83, 117, 110, 100, 97, 121, 44, 32, 48, 54, 45, 78, 111, 118, 45, 52, 52, 32, 48, 48, 58, 48, 48, 58, 48, 48, 32, 71, 77, 84], AV.int IntKind.i64 784111777] = [AV.str s33, AV.int IntKind.i64 now34] ∧ ∃ (s35 : List UInt8), ∃ (now36 : Int), [AV.str [70, 114, 105, 100, 97, 121, 44, 32, 51, 49, 45, 68, 101, 99, 45, 57, 57, 32, 50, 51, 58, 53, 57, 58, 53, 57, 32, 71, 77, 84], AV.int IntKind.i64 253402300799] = [AV.str s35, AV.int IntKind.i64 now36] ∧ ∃ (s37 : List UInt8), ∃ (now38 : Int), [AV.str [70, 114, 105, 100, 97, 121, 44, 32, 51, 49, 45, 68, 101, 99, 45, 57, 57, 32, 50, 51, 58, 53, 57, 58, 53, 57, 32, 71, 77, 84], AV.int IntKind.i64 (-5)] = [AV.str s37, AV.int IntKind.i64 now38] ∧ ifP ((↑(Prod.fst (parseP s33 now34)) : Int) == 2362003200) (ifP ((↑(Prod.snd (parseP s33 now34)) : Int) == 0) (ifP ((↑(Prod.fst (parseP s35 now36)) : Int) == 253402300799) (ifP ((↑(Prod.snd (parseP s35 now36)) : Int) == 0) (ifP ((↑(Prod.fst (parseP s37 now38)) : Int) == 946684799) (ifP ((↑(Prod.snd (parseP s37 now38)) : Int) == 0) (∃ (t39 : Int), [AV.int IntKind.i64 784111777] = [AV.int IntKind.i64 t39] ∧ ifP (putS t39 == [83, 117, 110, 44, 32, 48, 54, 32, 78, 111, 118, 32, 49, 57, 57, 52, 32, 48, 56, 58, 52, 57, 58, 51, 55, 32, 71, 77, 84]) (∃ (t40 : Int), [AV.int IntKind.i64 253402300799] = [AV.int IntKind.i64 t40] ∧ ifP (putS t40 == [70, 114, 105, 44, 32, 51, 49, 32, 68, 101, 99, 32, 57, 57, 57, 57, 32, 50, 51, 58, 53, 57, 58, 53, 57, 32, 71, 77, 84]) (∃ (t41 : Int), [AV.int IntKind.i64 (-1)] = [AV.int IntKind.i64 t41] ∧ ifP (putS t41 == []) (∃ (t42 : Int), [AV.int IntKind.i64 253402300800] = [AV.int IntKind.i64 t42] ∧ ifP (putS t42 == []) (∃ (t43 : Int), [AV.int IntKind.i64 1709164800] = [AV.int IntKind.i64 t43] ∧ ifP (putS t43 == [84, 104, 117, 44, 32, 50, 57, 32, 70, 101, 98, 32, 50, 48, 50, 52, 32, 48, 48, 58, 48, 48, 58, 48, 48, 32, 71, 77, 84]) (true = true ∧ AV.bool true = v) (AV.bool false = v)) (AV.bool false = v)) (AV.bool false = v)) (AV.bool false = v)) (AV.bool false = v)) (AV.bool false = v)) (AV.bool false = v)) (AV.bool false = v)) (AV.bool false = v)) (AV.bool false = v)) (AV.bool false = v))))))))))))))))) := by kernel_rfl
  exact unr_ok hT 100000 _ _ _ _ (e.mpr H)

end Go.Proofs.YtnefabbpjepppaaDoor
end

section
namespace Go.Proofs.YtnefabbpjepppaaDoor
open Go.Ai Go
set_option linter.unusedSimpArgs false
set_option linter.unusedVariables false
set_option maxRecDepth 100000
theorem pf6 : pureFn cfg 6 Tryd.f6 := ⟨by kernel_rfl, by kernel_rfl, by kernel_rfl, by kernel_rfl, by kernel_rfl, by kernel_rfl⟩
theorem pf19 : pureFn cfg 19 Tryd.f19 := ⟨by kernel_rfl, by kernel_rfl, by kernel_rfl, by kernel_rfl, by kernel_rfl, by kernel_rfl⟩
theorem c19 : COk cfg 19 noC := by
  refine cok_pure pf19 fun vs h K ht => ?_
  obtain ⟨s, now, rfl, hk⟩ := ht
  refine ⟨_, hk, t19 (ctab_ok (ctab_cons c10 (ctab_cons c11 ctab_nil))) ⟨s, now, rfl, ifP_intro (fun a => ?_) fun a => ?_⟩⟩
  · congr 1
    unfold noB
    simp only [beq_iff_eq] at a
    rw [decide_eq_true (p := (parseP s now).1 = 0) (by omega), Bool.true_and, Bool.eq_iff_iff]
    simp
    omega
  · congr 1
    unfold noB
    simp only [beq_eq_false_iff_ne] at a
    rw [decide_eq_false (p := (parseP s now).1 = 0) (by omega), Bool.false_and]
theorem none4 {f s r : List UInt8} {m : Mom} {now : Int} (h : runF f s mom0 = (m, r, true)) (hr : ¬okM (nearM m now)) : formP f s now = none := by
  unfold formP; rw [h, tick_no hr]; simp
theorem topY_of {now : Int} {d y : Nat} (hd : (max 0 (min now 253402300799)).toNat / 86400 = d) (h : inYear d y) : topY now = y + 50 := by
  unfold topY; rw [hd, inYear_uniq (yearOf_spec d) h]
theorem parse1 {s : List UInt8} {now : Int} {t : Nat} (h : formP form1 s now = some t) : parseP s now = (t, 0) := by unfold parseP; rw [h]
theorem parse2 {s : List UInt8} {now : Int} {t : Nat} (h1 : formP form1 s now = none) (h : formP form2 s now = some t) : parseP s now = (t, 0) := by unfold parseP; rw [h1, h]
theorem parse3 {s : List UInt8} {now : Int} {t : Nat} (h1 : formP form1 s now = none) (h2 : formP form2 s now = none) (h : formP form3 s now = some t) : parseP s now = (t, 0) := by unfold parseP; rw [h1, h2, h]
theorem parse4 {s : List UInt8} {now : Int} (h1 : formP form1 s now = none) (h2 : formP form2 s now = none) (h : formP form3 s now = none) : parseP s now = (0, 4) := by unfold parseP; rw [h1, h2, h]
theorem is_of {s : List UInt8} {now want : Int} {t : Nat} (h : parseP s now = (t, 0)) (e : (t : Int) = want) : isB s now want = true := by unfold isB; rw [h]; simp [e]
theorem no_of {s : List UInt8} {now : Int} (h : parseP s now = (0, 4)) : noB s now = true := by unfold noB; rw [h]; rfl

theorem top_nov : topY 784111777 = 2044 := topY_of (d := 9075) (y := 1994) (by decide) (by unfold inYear; decide)
theorem top_0 : topY 0 = 2020 := topY_of (d := 0) (y := 1970) (by decide) (by unfold inYear; decide)
theorem top_m5 : topY (-5) = 2020 := topY_of (d := 0) (y := 1970) (by decide) (by unfold inYear; decide)
theorem top_last : topY 253402300799 = 10049 := topY_of (d := 2932896) (y := 9999) (by decide) (by unfold inYear; decide)
theorem no0 : noB [77, 111, 110, 44, 32, 48, 54, 32, 78, 111, 118, 32, 49, 57, 57, 52, 32, 48, 56, 58, 52, 57, 58, 51, 55, 32, 71, 77, 84] 784111777 = true := no_of (parse4 (none4 (m := ⟨4, 6, 11, 1994, 8, 49, 37, false⟩) (r := []) (by kernel_rfl) (show ¬okM ⟨4, 6, 11, 1994, 8, 49, 37, false⟩ by decide)) (none1 (by kernel_rfl)) (none1 (by kernel_rfl)))
theorem no1 : noB [83, 117, 110, 44, 32, 48, 54, 32, 78, 111, 118, 32, 49, 57, 57, 52, 32, 48, 56, 58, 52, 57, 58, 54, 48, 32, 71, 77, 84] 784111777 = true := no_of (parse4 (none4 (m := ⟨3, 6, 11, 1994, 8, 49, 60, false⟩) (r := []) (by kernel_rfl) (show ¬okM ⟨3, 6, 11, 1994, 8, 49, 60, false⟩ by decide)) (none1 (by kernel_rfl)) (none1 (by kernel_rfl)))
theorem no2 : noB [83, 117, 110, 44, 32, 54, 32, 78, 111, 118, 32, 49, 57, 57, 52, 32, 48, 56, 58, 52, 57, 58, 51, 55, 32, 71, 77, 84] 784111777 = true := no_of (parse4 (none1 (by kernel_rfl)) (none1 (by kernel_rfl)) (none1 (by kernel_rfl)))
theorem no3 : noB [115, 117, 110, 44, 32, 48, 54, 32, 78, 111, 118, 32, 49, 57, 57, 52, 32, 48, 56, 58, 52, 57, 58, 51, 55, 32, 71, 77, 84] 784111777 = true := no_of (parse4 (none1 (by kernel_rfl)) (none1 (by kernel_rfl)) (none1 (by kernel_rfl)))
theorem no4 : noB [83, 117, 110, 44, 32, 48, 54, 32, 78, 111, 118, 32, 49, 57, 57, 52, 32, 48, 56, 58, 52, 57, 58, 51, 55, 32, 85, 84, 67] 784111777 = true := no_of (parse4 (none1 (by kernel_rfl)) (none1 (by kernel_rfl)) (none1 (by kernel_rfl)))
theorem no5 : noB [83, 117, 110, 44, 32, 48, 54, 32, 78, 111, 118, 32, 49, 57, 57, 52, 32, 48, 56, 58, 52, 57, 58, 51, 55, 32, 71, 77, 84, 32] 784111777 = true := no_of (parse4 (none2 (m := ⟨3, 6, 11, 1994, 8, 49, 37, false⟩) (r := [32]) (h := by kernel_rfl) (by kernel_rfl)) (none1 (by kernel_rfl)) (none1 (by kernel_rfl)))
theorem no6 : noB [] 784111777 = true := no_of (parse4 (none1 (by kernel_rfl)) (none1 (by kernel_rfl)) (none1 (by kernel_rfl)))
theorem no7 : noB [84, 104, 117, 44, 32, 50, 57, 32, 70, 101, 98, 32, 50, 48, 50, 51, 32, 48, 48, 58, 48, 48, 58, 48, 48, 32, 71, 77, 84] 784111777 = true := no_of (parse4 (none4 (m := ⟨0, 29, 2, 2023, 0, 0, 0, false⟩) (r := []) (by kernel_rfl) (show ¬okM ⟨0, 29, 2, 2023, 0, 0, 0, false⟩ by decide)) (none1 (by kernel_rfl)) (none1 (by kernel_rfl)))
theorem no8 : noB [83, 97, 116, 117, 114, 100, 97, 121, 44, 32, 48, 54, 45, 78, 111, 118, 45, 52, 52, 32, 48, 48, 58, 48, 48, 58, 48, 48, 32, 71, 77, 84] 784111777 = true := no_of (parse4 (none1 (by kernel_rfl)) (none4 (m := ⟨2, 6, 11, 44, 0, 0, 0, true⟩) (r := []) (by kernel_rfl) (by unfold nearM; rw [top_nov]; decide)) (none1 (by kernel_rfl)))
theorem no9 : noB [83, 97, 116, 117, 114, 100, 97, 121, 44, 32, 48, 54, 45, 78, 111, 118, 45, 52, 52, 32, 48, 48, 58, 48, 48, 58, 48, 48, 32, 71, 77, 84] 0 = true := no_of (parse4 (none1 (by kernel_rfl)) (none4 (m := ⟨2, 6, 11, 44, 0, 0, 0, true⟩) (r := []) (by kernel_rfl) (by unfold nearM; rw [top_0]; decide)) (none1 (by kernel_rfl)))
theorem no10 : noB [83, 117, 110, 32, 78, 111, 118, 32, 32, 48, 32, 48, 56, 58, 52, 57, 58, 51, 55, 32, 49, 57, 57, 52] 784111777 = true := no_of (parse4 (none1 (by kernel_rfl)) (none1 (by kernel_rfl)) (none4 (m := ⟨3, 0, 11, 1994, 8, 49, 37, false⟩) (r := []) (by kernel_rfl) (show ¬okM ⟨3, 0, 11, 1994, 8, 49, 37, false⟩ by decide)))
theorem no11 : noB [83, 117, 110, 44, 32, 48, 54, 32, 78, 111, 118, 32, 49, 57, 57, 52, 32, 50, 52, 58, 48, 48, 58, 48, 48, 32, 71, 77, 84] 784111777 = true := no_of (parse4 (none4 (m := ⟨3, 6, 11, 1994, 24, 0, 0, false⟩) (r := []) (by kernel_rfl) (show ¬okM ⟨3, 6, 11, 1994, 24, 0, 0, false⟩ by decide)) (none1 (by kernel_rfl)) (none1 (by kernel_rfl)))
theorem no12 : noB [87, 101, 100, 44, 32, 51, 49, 32, 68, 101, 99, 32, 49, 57, 54, 57, 32, 50, 51, 58, 53, 57, 58, 53, 57, 32, 71, 77, 84] 784111777 = true := no_of (parse4 (none4 (m := ⟨6, 31, 12, 1969, 23, 59, 59, false⟩) (r := []) (by kernel_rfl) (show ¬okM ⟨6, 31, 12, 1969, 23, 59, 59, false⟩ by decide)) (none1 (by kernel_rfl)) (none1 (by kernel_rfl)))
theorem yes0 : isB [84, 104, 117, 44, 32, 50, 57, 32, 70, 101, 98, 32, 50, 48, 50, 52, 32, 48, 48, 58, 48, 48, 58, 48, 48, 32, 71, 77, 84] 784111777 1709164800 = true := is_of (t := 1709164800) (parse1 (read1.2 ⟨2024, 2, 29, 0, 0, 0, ⟨by decide, by decide, by decide, by decide, by decide, by decide, by decide, by decide, by decide⟩, by kernel_rfl, by kernel_rfl⟩)) rfl
theorem yes1 : isB [83, 117, 110, 32, 78, 111, 118, 32, 48, 54, 32, 48, 56, 58, 52, 57, 58, 51, 55, 32, 49, 57, 57, 52] 784111777 784111777 = true := is_of (t := 784111777) (parse3 (none1 (by kernel_rfl)) (none1 (by kernel_rfl)) (read3.2 ⟨false, 1994, 11, 6, 8, 49, 37, ⟨by decide, by decide, by decide, by decide, by decide, by decide, by decide, by decide, by decide⟩, (fun h => by cases h), by kernel_rfl, by kernel_rfl⟩)) rfl
theorem par0 : parseP [83, 117, 110, 100, 97, 121, 44, 32, 48, 54, 45, 78, 111, 118, 45, 52, 52, 32, 48, 48, 58, 48, 48, 58, 48, 48, 32, 71, 77, 84] 784111777 = (2362003200, 0) := parse2 (none1 (by kernel_rfl)) (read2.2 ⟨2044, 11, 6, 0, 0, 0, ⟨by decide, by decide, by decide, by decide, by decide, by decide, by decide, by decide, by decide⟩, by rw [top_nov]; decide, by rw [top_nov]; decide, by kernel_rfl, by kernel_rfl⟩)
theorem par1 : parseP [70, 114, 105, 100, 97, 121, 44, 32, 51, 49, 45, 68, 101, 99, 45, 57, 57, 32, 50, 51, 58, 53, 57, 58, 53, 57, 32, 71, 77, 84] 253402300799 = (253402300799, 0) := parse2 (none1 (by kernel_rfl)) (read2.2 ⟨9999, 12, 31, 23, 59, 59, ⟨by decide, by decide, by decide, by decide, by decide, by decide, by decide, by decide, by decide⟩, by rw [top_last]; decide, by rw [top_last]; decide, by kernel_rfl, by kernel_rfl⟩)
theorem par2 : parseP [70, 114, 105, 100, 97, 121, 44, 32, 51, 49, 45, 68, 101, 99, 45, 57, 57, 32, 50, 51, 58, 53, 57, 58, 53, 57, 32, 71, 77, 84] (-5) = (946684799, 0) := parse2 (none1 (by kernel_rfl)) (read2.2 ⟨1999, 12, 31, 23, 59, 59, ⟨by decide, by decide, by decide, by decide, by decide, by decide, by decide, by decide, by decide⟩, by rw [top_m5]; decide, by rw [top_m5]; decide, by kernel_rfl, by kernel_rfl⟩)
theorem put0 : putS 784111777 = [83, 117, 110, 44, 32, 48, 54, 32, 78, 111, 118, 32, 49, 57, 57, 52, 32, 48, 56, 58, 52, 57, 58, 51, 55, 32, 71, 77, 84] := (put_tick (y := 1994) (m := 11) (d := 6) (a := 8) (b := 49) (c := 37) ⟨by decide, by decide, by decide, by decide, by decide, by decide, by decide, by decide, by decide⟩).2.trans (by kernel_rfl)
theorem put1 : putS 253402300799 = [70, 114, 105, 44, 32, 51, 49, 32, 68, 101, 99, 32, 57, 57, 57, 57, 32, 50, 51, 58, 53, 57, 58, 53, 57, 32, 71, 77, 84] := (put_tick (y := 9999) (m := 12) (d := 31) (a := 23) (b := 59) (c := 59) ⟨by decide, by decide, by decide, by decide, by decide, by decide, by decide, by decide, by decide⟩).2.trans (by kernel_rfl)
theorem put2 : putS 1709164800 = [84, 104, 117, 44, 32, 50, 57, 32, 70, 101, 98, 32, 50, 48, 50, 52, 32, 48, 48, 58, 48, 48, 58, 48, 48, 32, 71, 77, 84] := (put_tick (y := 2024) (m := 2) (d := 29) (a := 0) (b := 0) (c := 0) ⟨by decide, by decide, by decide, by decide, by decide, by decide, by decide, by decide, by decide⟩).2.trans (by kernel_rfl)
theorem put3 : putS (-1) = [] := by unfold putS; rw [if_neg (by decide)]
theorem put4 : putS 253402300800 = [] := by unfold putS; rw [if_neg (by unfold lastT; omega)]
set_option maxHeartbeats 8000000 in
theorem c6 : COk cfg 6 (fun vs h K => vs.isEmpty = true ∧ K (.bool true) h) := by
  refine cok_pure pf6 fun vs h K ht => ?_
  obtain ⟨hv, hk⟩ := ht
  have hT := ctab_ok (ctab_cons c10 (ctab_cons c11 (ctab_cons c13 (ctab_cons c19 (ctab_cons c20 ctab_nil)))))
  cases vs with
  | cons _ _ => cases hv
  | nil =>
    refine ⟨_, hk, t6 hT ?_⟩
    refine ⟨_, _, rfl, ?_⟩
    refine ifP_intro (fun a => ?_) fun _ => ?_
    · exact absurd a (by rw [no0]; decide)
    refine ⟨_, _, rfl, ?_⟩
    refine ifP_intro (fun a => ?_) fun _ => ?_
    · exact absurd a (by rw [no1]; decide)
    refine ⟨_, _, rfl, ?_⟩
    refine ifP_intro (fun a => ?_) fun _ => ?_
    · exact absurd a (by rw [no2]; decide)
    refine ⟨_, _, rfl, ?_⟩
    refine ifP_intro (fun a => ?_) fun _ => ?_
    · exact absurd a (by rw [no3]; decide)
    refine ⟨_, _, rfl, ?_⟩
    refine ifP_intro (fun a => ?_) fun _ => ?_
    · exact absurd a (by rw [no4]; decide)
    refine ⟨_, _, rfl, ?_⟩
    refine ifP_intro (fun a => ?_) fun _ => ?_
    · exact absurd a (by rw [no5]; decide)
    refine ⟨_, _, rfl, ?_⟩
    refine ifP_intro (fun a => ?_) fun _ => ?_
    · exact absurd a (by rw [no6]; decide)
    refine ⟨_, _, _, rfl, ?_⟩
    refine ifP_intro (fun a => ?_) fun _ => ?_
    · exact absurd a (by rw [yes0]; decide)
    refine ⟨_, _, rfl, ?_⟩
    refine ifP_intro (fun a => ?_) fun _ => ?_
    · exact absurd a (by rw [no7]; decide)
    refine ⟨_, _, rfl, ?_⟩
    refine ifP_intro (fun a => ?_) fun _ => ?_
    · exact absurd a (by rw [no8]; decide)
    refine ⟨_, _, rfl, ?_⟩
    refine ifP_intro (fun a => ?_) fun _ => ?_
    · exact absurd a (by rw [no9]; decide)
    refine ⟨_, _, _, rfl, ?_⟩
    refine ifP_intro (fun a => ?_) fun _ => ?_
    · exact absurd a (by rw [yes1]; decide)
    refine ⟨_, _, rfl, ?_⟩
    refine ifP_intro (fun a => ?_) fun _ => ?_
    · exact absurd a (by rw [no10]; decide)
    refine ⟨_, _, rfl, ?_⟩
    refine ifP_intro (fun a => ?_) fun _ => ?_
    · exact absurd a (by rw [no11]; decide)
    refine ⟨_, _, rfl, ?_⟩
    refine ifP_intro (fun a => ?_) fun _ => ?_
    · exact absurd a (by rw [no12]; decide)
    refine ⟨_, _, rfl, ?_⟩
    refine ⟨_, _, rfl, ?_⟩
    refine ⟨_, _, rfl, ?_⟩
    rw [par0, par1, par2]
    refine ifP_intro (fun _ => ?_) fun a => absurd a (by decide)
    refine ifP_intro (fun _ => ?_) fun a => absurd a (by decide)
    refine ifP_intro (fun _ => ?_) fun a => absurd a (by decide)
    refine ifP_intro (fun _ => ?_) fun a => absurd a (by decide)
    refine ifP_intro (fun _ => ?_) fun a => absurd a (by decide)
    refine ifP_intro (fun _ => ?_) fun a => absurd a (by decide)
    refine ⟨_, rfl, ?_⟩
    refine ifP_intro (fun _ => ?_) fun a => ?_
    rotate_left
    · exact absurd a (by rw [put0]; decide)
    refine ⟨_, rfl, ?_⟩
    refine ifP_intro (fun _ => ?_) fun a => ?_
    rotate_left
    · exact absurd a (by rw [put1]; decide)
    refine ⟨_, rfl, ?_⟩
    refine ifP_intro (fun _ => ?_) fun a => ?_
    rotate_left
    · exact absurd a (by rw [put3]; decide)
    refine ⟨_, rfl, ?_⟩
    refine ifP_intro (fun _ => ?_) fun a => ?_
    rotate_left
    · exact absurd a (by rw [put4]; decide)
    refine ⟨_, rfl, ?_⟩
    refine ifP_intro (fun _ => ?_) fun a => ?_
    rotate_left
    · exact absurd a (by rw [put2]; decide)
    exact ⟨rfl, rfl⟩
end Go.Proofs.YtnefabbpjepppaaDoor
end
