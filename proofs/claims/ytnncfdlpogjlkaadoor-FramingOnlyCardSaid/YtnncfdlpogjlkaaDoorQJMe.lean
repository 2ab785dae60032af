/-
  Runs of functions of lists of texts, printed by a home tool; each is the kernel's word.
  Where a body ends: the statements' contracts.
  The chapter's examples, where a body ends: settled by the kernel's own evaluation, with what fields say of requests and replies taken as primitives.
-/
import Derived.Test.YtnncfdlpogjlkaaDoorQCfg
import Derived.Test.YtnncfdlpogjlkaaDoorQJMa
import Derived.Test.YtnncfdlpogjlkaaDoorQJMd
import Derived.Test.YtnncfdlpogjlkaaDoorQAiLift
section
namespace Go.Proofs.YtnncfdlpogjlkaaDoor
open Go.Ai Go
set_option maxRecDepth 100000
set_option linter.unusedVariables false
theorem t3 {v : AV} {e : List (List AV)} {sz : Nat} (hT : TabOk cfg (ctab [(13, fewC), (14, Ai.trueC), (15, askFC), (16, askFC), (18, tellFC), (19, tellFC), (17, sameFsC)])) (H :
    ∃ (l1 : List Fld), ∃ (sz2 : Nat), szOk sz2 2 (List.length l1) ∧ (∀ (f3 : Fld), f3 ∈ l1 → (↑(List.length (Fld.name f3)) : Int) ≤ 9223372036854775807) ∧ [AV.sl sz (stripss 0 [] e) none] = [AV.sl sz2 (encFs l1) none] ∧ ifP (!fewB l1) (true = true ∧ AV.bool true = v) (gAnd ((Nat.beq sz 2 || List.isEmpty e) && true && decide ((0 + List.length e) * 32 ≤ 140737488355328) && true && true) (∃ (l5 : List Fld), ∃ (sz6 : Nat), (List.length l5 ≤ 10000000 ∧ ∀ (f7 : Fld), f7 ∈ l5 → List.length (Fld.name f7) ≤ 10000000 ∧ List.length (Fld.value f7) ≤ 10000000) ∧ szOk sz6 2 (List.length l5) ∧ [AV.sl 2 (stripss 0 [] ([] ++ e)) none] = [AV.sl sz6 (encFs l5) none] ∧ ∃ (l9 : List Fld), ∃ (sz10 : Nat), (List.length l9 ≤ 10000000 ∧ ∀ (f11 : Fld), f11 ∈ l9 → List.length (Fld.name f11) ≤ 10000000 ∧ List.length (Fld.value f11) ≤ 10000000) ∧ szOk sz10 2 (List.length l9) ∧ [AV.sl sz (stripss 0 [] e) none] = [AV.sl sz10 (encFs l9) none] ∧ ifP (Prod.fst (asksF l5) == Prod.fst (asksF l9) && (Prod.fst (Prod.snd (asksF l5)) == Prod.fst (Prod.snd (asksF l9)) && true)) (ifP (Prod.snd (Prod.snd (asksF l5)) == Prod.snd (Prod.snd (asksF l9))) (∃ (a13 : List Fld), ∃ (b14 : List Fld), ∃ (sz15 : Nat), ∃ (sy16 : Nat), List.length a13 ≤ 10000000 ∧ szOk sz15 2 (List.length a13) ∧ szOk sy16 2 (List.length b14) ∧ [AV.sl 2 (stripss 0 [] ([] ++ e)) none, AV.sl sz (stripss 0 [] e) none] = [AV.sl sz15 (encFs a13) none, AV.sl sy16 (encFs b14) none] ∧ ifP (sameFs a13 b14) (true = true ∧ AV.bool true = v) (AV.bool false = v)) (AV.bool false = v)) (AV.bool false = v)))) :
    ToEnd cfg 3 (bodyOf Tryd.f3) (RetIs Tryd.prog Tryd.f3 v) ([.code []]) .normal ([(0, true, .sl sz e none)]) ([]) := by
  have e : unr cfg 3 (bodyOf Tryd.f3) (ctab [(13, fewC), (14, Ai.trueC), (15, askFC), (16, askFC), (18, tellFC), (19, tellFC), (17, sameFsC)]) ⟨[], []⟩ (RetIs Tryd.prog Tryd.f3 v) 100000 ([.code []]) .normal ([(0, true, .sl sz e none)]) ([]) =
    (∃ (l1 : List Fld), ∃ (sz2 : Nat), szOk sz2 2 (List.length l1) ∧ (∀ (f3 : Fld), f3 ∈ l1 → (↑(List.length (Fld.name f3)) : Int) ≤ 9223372036854775807) ∧ [AV.sl sz (stripss 0 [] e) none] = [AV.sl sz2 (encFs l1) none] ∧ ifP (!fewB l1) (true = true ∧ AV.bool true = v) (gAnd ((Nat.beq sz 2 || List.isEmpty e) && true && decide ((0 + List.length e) * 32 ≤ 140737488355328) && true && true) (∃ (l5 : List Fld), ∃ (sz6 : Nat), (List.length l5 ≤ 10000000 ∧ ∀ (f7 : Fld), f7 ∈ l5 → List.length (Fld.name f7) ≤ 10000000 ∧ List.length (Fld.value f7) ≤ 10000000) ∧ szOk sz6 2 (List.length l5) ∧ [AV.sl 2 (stripss 0 [] ([] ++ e)) none] = [AV.sl sz6 (encFs l5) none] ∧ ∃ (l9 : List Fld), ∃ (sz10 : Nat), (List.length l9 ≤ 10000000 ∧ ∀ (f11 : Fld), f11 ∈ l9 → List.length (Fld.name f11) ≤ 10000000 ∧ List.length (Fld.value f11) ≤ 10000000) ∧ szOk sz10 2 (List.length l9) ∧ [AV.sl sz (stripss 0 [] e) none] = [AV.sl sz10 (encFs l9) none] ∧ ifP (Prod.fst (asksF l5) == Prod.fst (asksF l9) && (Prod.fst (Prod.snd (asksF l5)) == Prod.fst (Prod.snd (asksF l9)) && true)) (ifP (Prod.snd (Prod.snd (asksF l5)) == Prod.snd (Prod.snd (asksF l9))) (∃ (a13 : List Fld), ∃ (b14 : List Fld), ∃ (sz15 : Nat), ∃ (sy16 : Nat), List.length a13 ≤ 10000000 ∧ szOk sz15 2 (List.length a13) ∧ szOk sy16 2 (List.length b14) ∧ [AV.sl 2 (stripss 0 [] ([] ++ e)) none, AV.sl sz (stripss 0 [] e) none] = [AV.sl sz15 (encFs a13) none, AV.sl sy16 (encFs b14) none] ∧ ifP (sameFs a13 b14) (true = true ∧ AV.bool true = v) (AV.bool false = v)) (AV.bool false = v)) (AV.bool false = v)))) := by kernel_rfl
  exact unr_ok hT 100000 _ _ _ _ (e.mpr H)

theorem t4 {v : AV} {e : List (List AV)} {sz : Nat} {st : Int} {hd : Bool} (hT : TabOk cfg (ctab [(13, fewC), (14, Ai.trueC), (15, askFC), (16, askFC), (18, tellFC), (19, tellFC)])) (H :
    ∃ (l1 : List Fld), ∃ (sz2 : Nat), szOk sz2 2 (List.length l1) ∧ (∀ (f3 : Fld), f3 ∈ l1 → (↑(List.length (Fld.name f3)) : Int) ≤ 9223372036854775807) ∧ [AV.sl sz (stripss 0 [] e) none] = [AV.sl sz2 (encFs l1) none] ∧ ifP (!fewB l1) (true = true ∧ AV.bool true = v) (∃ (l5 : List Fld), ∃ (sz6 : Nat), ∃ (st7 : Int), ∃ (hd8 : Bool), (List.length l5 ≤ 10000000 ∧ ∀ (f9 : Fld), f9 ∈ l5 → List.length (Fld.name f9) ≤ 10000000 ∧ List.length (Fld.value f9) ≤ 10000000) ∧ szOk sz6 2 (List.length l5) ∧ -9223372036854775808 ≤ st7 ∧ st7 ≤ 9223372036854775807 ∧ [AV.sl sz (stripss 0 [] e) none, AV.int IntKind.i64 st, AV.bool hd] = [AV.sl sz6 (encFs l5) none, AV.int IntKind.i64 st7, AV.bool hd8] ∧ ∃ (l11 : List Fld), ∃ (sz12 : Nat), ∃ (st13 : Int), ∃ (hd14 : Bool), (List.length l11 ≤ 10000000 ∧ ∀ (f15 : Fld), f15 ∈ l11 → List.length (Fld.name f15) ≤ 10000000 ∧ List.length (Fld.value f15) ≤ 10000000) ∧ szOk sz12 2 (List.length l11) ∧ -9223372036854775808 ≤ st13 ∧ st13 ≤ 9223372036854775807 ∧ [AV.sl sz (stripss 0 [] e) none, AV.int IntKind.i64 st, AV.bool hd] = [AV.sl sz12 (encFs l11) none, AV.int IntKind.i64 st13, AV.bool hd14] ∧ ifP (Prod.fst (tellsF l5 st7 hd8) == Prod.fst (tellsF l11 st13 hd14) && (Prod.fst (Prod.snd (tellsF l5 st7 hd8)) == Prod.fst (Prod.snd (tellsF l11 st13 hd14)) && true)) (ifP (Prod.snd (Prod.snd (tellsF l5 st7 hd8)) == Prod.snd (Prod.snd (tellsF l11 st13 hd14))) (true = true ∧ AV.bool true = v) (AV.bool false = v)) (AV.bool false = v))) :
    ToEnd cfg 4 (bodyOf Tryd.f4) (RetIs Tryd.prog Tryd.f4 v) ([.code []]) .normal ([(0, true, .sl sz e none), (1, true, .int .i64 st), (2, true, .bool hd)]) ([]) := by
  have e : unr cfg 4 (bodyOf Tryd.f4) (ctab [(13, fewC), (14, Ai.trueC), (15, askFC), (16, askFC), (18, tellFC), (19, tellFC)]) ⟨[], []⟩ (RetIs Tryd.prog Tryd.f4 v) 100000 ([.code []]) .normal ([(0, true, .sl sz e none), (1, true, .int .i64 st), (2, true, .bool hd)]) ([]) =
    (∃ (l1 : List Fld), ∃ (sz2 : Nat), szOk sz2 2 (List.length l1) ∧ (∀ (f3 : Fld), f3 ∈ l1 → (↑(List.length (Fld.name f3)) : Int) ≤ 9223372036854775807) ∧ [AV.sl sz (stripss 0 [] e) none] = [AV.sl sz2 (encFs l1) none] ∧ ifP (!fewB l1) (true = true ∧ AV.bool true = v) (∃ (l5 : List Fld), ∃ (sz6 : Nat), ∃ (st7 : Int), ∃ (hd8 : Bool), (List.length l5 ≤ 10000000 ∧ ∀ (f9 : Fld), f9 ∈ l5 → List.length (Fld.name f9) ≤ 10000000 ∧ List.length (Fld.value f9) ≤ 10000000) ∧ szOk sz6 2 (List.length l5) ∧ -9223372036854775808 ≤ st7 ∧ st7 ≤ 9223372036854775807 ∧ [AV.sl sz (stripss 0 [] e) none, AV.int IntKind.i64 st, AV.bool hd] = [AV.sl sz6 (encFs l5) none, AV.int IntKind.i64 st7, AV.bool hd8] ∧ ∃ (l11 : List Fld), ∃ (sz12 : Nat), ∃ (st13 : Int), ∃ (hd14 : Bool), (List.length l11 ≤ 10000000 ∧ ∀ (f15 : Fld), f15 ∈ l11 → List.length (Fld.name f15) ≤ 10000000 ∧ List.length (Fld.value f15) ≤ 10000000) ∧ szOk sz12 2 (List.length l11) ∧ -9223372036854775808 ≤ st13 ∧ st13 ≤ 9223372036854775807 ∧ [AV.sl sz (stripss 0 [] e) none, AV.int IntKind.i64 st, AV.bool hd] = [AV.sl sz12 (encFs l11) none, AV.int IntKind.i64 st13, AV.bool hd14] ∧ ifP (Prod.fst (tellsF l5 st7 hd8) == Prod.fst (tellsF l11 st13 hd14) && (Prod.fst (Prod.snd (tellsF l5 st7 hd8)) == Prod.fst (Prod.snd (tellsF l11 st13 hd14)) && true)) (ifP (Prod.snd (Prod.snd (tellsF l5 st7 hd8)) == Prod.snd (Prod.snd (tellsF l11 st13 hd14))) (true = true ∧ AV.bool true = v) (AV.bool false = v)) (AV.bool false = v))) := by kernel_rfl
  exact unr_ok hT 100000 _ _ _ _ (e.mpr H)

theorem t5 {v : AV} {e : List (List AV)} {sz : Nat} {a b : List UInt8} {k : Int} (hT : TabOk cfg (ctab [(13, fewC), (14, Ai.trueC), (15, askFB), (18, tellFB), (20, valuesB)])) (H :
    ∃ (l1 : List Fld),
  ∃ (sz2 : Nat),
    szOk sz2 2 (List.length l1) ∧
      (∀ (f3 : Fld), f3 ∈ l1 → (↑(List.length (Fld.name f3)) : Int) ≤ 9223372036854775807) ∧
        [AV.sl sz (stripss 0 [] e) none] = [AV.sl sz2 (encFs l1) none] ∧
          ifP (!fewB l1) (true = true ∧ AV.bool true = v)
            (ifP (decide (IntKind.wrap IntKind.i64 ((↑(List.length a) : Int) + (↑(List.length b) : Int)) > 2000)) (true = true ∧ AV.bool true = v)
              (gAnd (!decide (IntKind.wrap IntKind.i64 ((↑(List.length e) : Int) + 1) = 0))
                (gAnd (cutOb (List.length e) none (some (Int.tmod (IntKind.wrap IntKind.i64 k) (IntKind.wrap IntKind.i64 ((↑(List.length e) : Int) + 1)))) && (Nat.beq sz 2 || List.isEmpty e) && true)
                  (gAnd ((Nat.beq sz 2 || List.isEmpty (cutL e none (some (Int.tmod (IntKind.wrap IntKind.i64 k) (IntKind.wrap IntKind.i64 ((↑(List.length e) : Int) + 1)))))) && true && decide ((0 + List.length (cutL e none (some (Int.tmod (IntKind.wrap IntKind.i64 k) (IntKind.wrap IntKind.i64 ((↑(List.length e) : Int) + 1)))))) * 32 ≤ 140737488355328) && true && true)
                    (gAnd (tagOk [Blk.mem 38 [AV.str a, AV.str b], Blk.grow (0 + List.length (cutL e none (some (Int.tmod (IntKind.wrap IntKind.i64 k) (IntKind.wrap IntKind.i64 ((↑(List.length e) : Int) + 1)))))) 2 38, Blk.grow 1 2 38] (List.length ([] ++ cutL e none (some (Int.tmod (IntKind.wrap IntKind.i64 k) (IntKind.wrap IntKind.i64 ((↑(List.length e) : Int) + 1)))))) 2 38 (some 1) && true && true && true && decide ((List.length ([] ++ cutL e none (some (Int.tmod (IntKind.wrap IntKind.i64 k) (IntKind.wrap IntKind.i64 ((↑(List.length e) : Int) + 1))))) + 1) * 32 ≤ 140737488355328) && true && true)
                      (gAnd (cutOb (List.length e) (some (Int.tmod (IntKind.wrap IntKind.i64 k) (IntKind.wrap IntKind.i64 ((↑(List.length e) : Int) + 1)))) none && (Nat.beq sz 2 || List.isEmpty e) && true)
                        (gAnd (tagOk [Blk.mem 38 [AV.str a, AV.str b], Blk.grow (List.length ([] ++ cutL e none (some (Int.tmod (IntKind.wrap IntKind.i64 k) (IntKind.wrap IntKind.i64 ((↑(List.length e) : Int) + 1))))) + 1) 2 38, Blk.grow 1 2 38] (List.length ([] ++ cutL e none (some (Int.tmod (IntKind.wrap IntKind.i64 k) (IntKind.wrap IntKind.i64 ((↑(List.length e) : Int) + 1)))) ++ [[AV.str a, AV.str b]])) 2 38 (some 1) && true && (Nat.beq sz 2 || List.isEmpty (cutL e (some (Int.tmod (IntKind.wrap IntKind.i64 k) (IntKind.wrap IntKind.i64 ((↑(List.length e) : Int) + 1)))) none)) && true && decide ((List.length ([] ++ cutL e none (some (Int.tmod (IntKind.wrap IntKind.i64 k) (IntKind.wrap IntKind.i64 ((↑(List.length e) : Int) + 1)))) ++ [[AV.str a, AV.str b]]) + List.length (cutL e (some (Int.tmod (IntKind.wrap IntKind.i64 k) (IntKind.wrap IntKind.i64 ((↑(List.length e) : Int) + 1)))) none)) * 32 ≤ 140737488355328) && true && true)
                          (∃ (l5 : List Fld),
                            ∃ (nm6 : List UInt8),
                              ∃ (sz7 : Nat),
                                okFb l5 ∧
                                  szOk sz7 2 (List.length l5) ∧
                                    List.length nm6 ≤ 10000000 ∧
                                      [AV.sl 2 [[AV.str a, AV.str b]] none, AV.str [99, 111, 110, 116, 101, 110, 116, 45, 108, 101, 110, 103, 116, 104]] = [AV.sl sz7 (encFs l5) none, AV.str nm6] ∧
                                        ifP (decide ((↑(List.length (encS (valuesOf l5 nm6))) : Int) > 0)) (true = true ∧ AV.bool true = v)
                                          (∃ (l10 : List Fld),
                                            ∃ (nm11 : List UInt8),
                                              ∃ (sz12 : Nat),
                                                okFb l10 ∧
                                                  szOk sz12 2 (List.length l10) ∧
                                                    List.length nm11 ≤ 10000000 ∧
                                                      [AV.sl 2 [[AV.str a, AV.str b]] none, AV.str [116, 114, 97, 110, 115, 102, 101, 114, 45, 101, 110, 99, 111, 100, 105, 110, 103]] = [AV.sl sz12 (encFs l10) none, AV.str nm11] ∧
                                                        ifP (decide ((↑(List.length (encS (valuesOf l10 nm11))) : Int) > 0)) (true = true ∧ AV.bool true = v)
                                                          (∃ (l15 : List Fld),
                                                            ∃ (sz16 : Nat),
                                                              okFw l15 ∧
                                                                szOk sz16 2 (List.length l15) ∧
                                                                  [AV.sl sz (stripss 0 [] e) none] = [AV.sl sz16 (encFs l15) none] ∧
                                                                    ∃ (l19 : List Fld),
                                                                      ∃ (sz20 : Nat),
                                                                        okFw l19 ∧
                                                                          szOk sz20 2 (List.length l19) ∧
                                                                            [AV.sl 2 (stripss 0 [] ([] ++ cutL e none (some (Int.tmod (IntKind.wrap IntKind.i64 k) (IntKind.wrap IntKind.i64 ((↑(List.length e) : Int) + 1)))) ++ [[AV.str a, AV.str b]] ++ cutL e (some (Int.tmod (IntKind.wrap IntKind.i64 k) (IntKind.wrap IntKind.i64 ((↑(List.length e) : Int) + 1)))) none)) none] = [AV.sl sz20 (encFs l19) none] ∧
                                                                              ∃ (l23 : List Fld),
                                                                                ∃ (sz24 : Nat),
                                                                                  ∃ (st25 : Int),
                                                                                    ∃ (hd26 : Bool),
                                                                                      okFw l23 ∧
                                                                                        szOk sz24 2 (List.length l23) ∧
                                                                                          -9223372036854775808 ≤ st25 ∧
                                                                                            st25 ≤ 9223372036854775807 ∧
                                                                                              [AV.sl sz (stripss 0 [] e) none, AV.int IntKind.i64 200, AV.bool false] = [AV.sl sz24 (encFs l23) none, AV.int IntKind.i64 st25, AV.bool hd26] ∧
                                                                                                ∃ (l29 : List Fld),
                                                                                                  ∃ (sz30 : Nat),
                                                                                                    ∃ (st31 : Int),
                                                                                                      ∃ (hd32 : Bool),
                                                                                                        okFw l29 ∧
                                                                                                          szOk sz30 2 (List.length l29) ∧
                                                                                                            -9223372036854775808 ≤ st31 ∧
                                                                                                              st31 ≤ 9223372036854775807 ∧
                                                                                                                [AV.sl 2 (stripss 0 [] ([] ++ cutL e none (some (Int.tmod (IntKind.wrap IntKind.i64 k) (IntKind.wrap IntKind.i64 ((↑(List.length e) : Int) + 1)))) ++ [[AV.str a, AV.str b]] ++ cutL e (some (Int.tmod (IntKind.wrap IntKind.i64 k) (IntKind.wrap IntKind.i64 ((↑(List.length e) : Int) + 1)))) none)) none, AV.int IntKind.i64 200, AV.bool false] = [AV.sl sz30 (encFs l29) none, AV.int IntKind.i64 st31, AV.bool hd32] ∧
                                                                                                                  ifP (!(Prod.fst (asksF l15) == Prod.fst (asksF l19) && (Prod.fst (Prod.snd (asksF l15)) == Prod.fst (Prod.snd (asksF l19)) && true))) (AV.bool false = v) (ifP (Prod.snd (Prod.snd (asksF l15)) != Prod.snd (Prod.snd (asksF l19))) (AV.bool false = v) (ifP (!(Prod.fst (tellsF l23 st25 hd26) == Prod.fst (tellsF l29 st31 hd32) && (Prod.fst (Prod.snd (tellsF l23 st25 hd26)) == Prod.fst (Prod.snd (tellsF l29 st31 hd32)) && true))) (AV.bool false = v) (ifP (Prod.snd (Prod.snd (tellsF l23 st25 hd26)) != Prod.snd (Prod.snd (tellsF l29 st31 hd32))) (AV.bool false = v) (∃ (l35 : List Fld), ∃ (nm36 : List UInt8), ∃ (sz37 : Nat), okFb l35 ∧ szOk sz37 2 (List.length l35) ∧ List.length nm36 ≤ 10000000 ∧ [AV.sl sz (stripss 0 [] e) none, AV.str [99, 111, 110, 116, 101, 110, 116, 45, 108, 101, 110, 103, 116, 104]] = [AV.sl sz37 (encFs l35) none, AV.str nm36] ∧ ifP ((↑(List.length (encS (valuesOf l35 nm36))) : Int) == 0) (true = true ∧ AV.bool true = v) (gAnd (inR 0 (List.length (encS (valuesOf l35 nm36))) && true && true) (∃ (s40 : List UInt8), getE (encS (valuesOf l35 nm36)) 0 = [AV.str s40] ∧ gAnd (tagOk [Blk.mem 38 [AV.str a, AV.str b], Blk.grow (List.length ([] ++ cutL e none (some (Int.tmod (IntKind.wrap IntKind.i64 k) (IntKind.wrap IntKind.i64 ((↑(List.length e) : Int) + 1)))) ++ [[AV.str a, AV.str b]]) + List.length (cutL e (some (Int.tmod (IntKind.wrap IntKind.i64 k) (IntKind.wrap IntKind.i64 ((↑(List.length e) : Int) + 1)))) none)) 2 38, Blk.grow 1 2 38, Blk.grow 1 2 38, Blk.mem 26 [AV.int IntKind.i64 (Prod.fst (asksF l15)), AV.int IntKind.i64 (Prod.fst (Prod.snd (asksF l15)))], Blk.mem 26 [AV.int IntKind.i64 (Prod.fst (asksF l19)), AV.int IntKind.i64 (Prod.fst (Prod.snd (asksF l19)))], Blk.mem 26 [AV.int IntKind.i64 (Prod.fst (tellsF l23 st25 hd26)), AV.int IntKind.i64 (Prod.fst (Prod.snd (tellsF l23 st25 hd26)))], Blk.mem 26 [AV.int IntKind.i64 (Prod.fst (tellsF l29 st31 hd32)), AV.int IntKind.i64 (Prod.fst (Prod.snd (tellsF l29 st31 hd32)))], Blk.grow 1 2 38] (List.length ([] ++ cutL e none (some (Int.tmod (IntKind.wrap IntKind.i64 k) (IntKind.wrap IntKind.i64 ((↑(List.length e) : Int) + 1)))) ++ [[AV.str a, AV.str b]] ++ cutL e (some (Int.tmod (IntKind.wrap IntKind.i64 k) (IntKind.wrap IntKind.i64 ((↑(List.length e) : Int) + 1)))) none)) 2 38 (some 1) && true && true && true && decide ((List.length ([] ++ cutL e none (some (Int.tmod (IntKind.wrap IntKind.i64 k) (IntKind.wrap IntKind.i64 ((↑(List.length e) : Int) + 1)))) ++ [[AV.str a, AV.str b]] ++ cutL e (some (Int.tmod (IntKind.wrap IntKind.i64 k) (IntKind.wrap IntKind.i64 ((↑(List.length e) : Int) + 1)))) none) + 1) * 32 ≤ 140737488355328) && true && true) (∃ (l41 : List Fld), ∃ (sz42 : Nat), okFw l41 ∧ szOk sz42 2 (List.length l41) ∧ [AV.sl 2 (stripss 0 [] ([] ++ cutL e none (some (Int.tmod (IntKind.wrap IntKind.i64 k) (IntKind.wrap IntKind.i64 ((↑(List.length e) : Int) + 1)))) ++ [[AV.str a, AV.str b]] ++ cutL e (some (Int.tmod (IntKind.wrap IntKind.i64 k) (IntKind.wrap IntKind.i64 ((↑(List.length e) : Int) + 1)))) none ++ [[AV.str [67, 79, 78, 84, 69, 78, 84, 45, 76, 69, 78, 71, 84, 72], AV.str s40]])) none] = [AV.sl sz42 (encFs l41) none] ∧ ifP (Prod.fst (asksF l41) == Prod.fst (asksF l15) && (Prod.fst (Prod.snd (asksF l41)) == Prod.fst (Prod.snd (asksF l15)) && true)) (ifP (Prod.snd (Prod.snd (asksF l41)) == Prod.snd (Prod.snd (asksF l15))) (true = true ∧ AV.bool true = v) (AV.bool false = v)) (AV.bool false = v))))))))))))))))))) :
    ToEnd cfg 5 (bodyOf Tryd.f5) (RetIs Tryd.prog Tryd.f5 v) ([.code []]) .normal ([(0, true, .sl sz e none), (1, true, .agg [.str a, .str b]), (2, true, .int .u8 k)]) ([]) := by
  have e : unr cfg 5 (bodyOf Tryd.f5) (ctab [(13, fewC), (14, Ai.trueC), (15, askFB), (18, tellFB), (20, valuesB)]) ⟨[], [([0, 1, 1, 1, 1, 1, 1, 1, 1, 1, 1, 1, 1, 1, 1, 1, 1], 2, [.str])]⟩ (RetIs Tryd.prog Tryd.f5 v) 100000 ([.code []]) .normal ([(0, true, .sl sz e none), (1, true, .agg [.str a, .str b]), (2, true, .int .u8 k)]) ([]) =
    (∃ (l1 : List Fld),
  ∃ (sz2 : Nat),
    szOk sz2 2 (List.length l1) ∧
      (∀ (f3 : Fld), f3 ∈ l1 → (↑(List.length (Fld.name f3)) : Int) ≤ 9223372036854775807) ∧
        [AV.sl sz (stripss 0 [] e) none] = [AV.sl sz2 (encFs l1) none] ∧
          ifP (!fewB l1) (true = true ∧ AV.bool true = v)
            (ifP (decide (IntKind.wrap IntKind.i64 ((↑(List.length a) : Int) + (↑(List.length b) : Int)) > 2000)) (true = true ∧ AV.bool true = v)
              (gAnd (!decide (IntKind.wrap IntKind.i64 ((↑(List.length e) : Int) + 1) = 0))
                (gAnd (cutOb (List.length e) none (some (Int.tmod (IntKind.wrap IntKind.i64 k) (IntKind.wrap IntKind.i64 ((↑(List.length e) : Int) + 1)))) && (Nat.beq sz 2 || List.isEmpty e) && true)
                  (gAnd ((Nat.beq sz 2 || List.isEmpty (cutL e none (some (Int.tmod (IntKind.wrap IntKind.i64 k) (IntKind.wrap IntKind.i64 ((↑(List.length e) : Int) + 1)))))) && true && decide ((0 + List.length (cutL e none (some (Int.tmod (IntKind.wrap IntKind.i64 k) (IntKind.wrap IntKind.i64 ((↑(List.length e) : Int) + 1)))))) * 32 ≤ 140737488355328) && true && true)
                    (gAnd (tagOk [Blk.mem 38 [AV.str a, AV.str b], Blk.grow (0 + List.length (cutL e none (some (Int.tmod (IntKind.wrap IntKind.i64 k) (IntKind.wrap IntKind.i64 ((↑(List.length e) : Int) + 1)))))) 2 38, Blk.grow 1 2 38] (List.length ([] ++ cutL e none (some (Int.tmod (IntKind.wrap IntKind.i64 k) (IntKind.wrap IntKind.i64 ((↑(List.length e) : Int) + 1)))))) 2 38 (some 1) && true && true && true && decide ((List.length ([] ++ cutL e none (some (Int.tmod (IntKind.wrap IntKind.i64 k) (IntKind.wrap IntKind.i64 ((↑(List.length e) : Int) + 1))))) + 1) * 32 ≤ 140737488355328) && true && true)
                      (gAnd (cutOb (List.length e) (some (Int.tmod (IntKind.wrap IntKind.i64 k) (IntKind.wrap IntKind.i64 ((↑(List.length e) : Int) + 1)))) none && (Nat.beq sz 2 || List.isEmpty e) && true)
                        (gAnd (tagOk [Blk.mem 38 [AV.str a, AV.str b], Blk.grow (List.length ([] ++ cutL e none (some (Int.tmod (IntKind.wrap IntKind.i64 k) (IntKind.wrap IntKind.i64 ((↑(List.length e) : Int) + 1))))) + 1) 2 38, Blk.grow 1 2 38] (List.length ([] ++ cutL e none (some (Int.tmod (IntKind.wrap IntKind.i64 k) (IntKind.wrap IntKind.i64 ((↑(List.length e) : Int) + 1)))) ++ [[AV.str a, AV.str b]])) 2 38 (some 1) && true && (Nat.beq sz 2 || List.isEmpty (cutL e (some (Int.tmod (IntKind.wrap IntKind.i64 k) (IntKind.wrap IntKind.i64 ((↑(List.length e) : Int) + 1)))) none)) && true && decide ((List.length ([] ++ cutL e none (some (Int.tmod (IntKind.wrap IntKind.i64 k) (IntKind.wrap IntKind.i64 ((↑(List.length e) : Int) + 1)))) ++ [[AV.str a, AV.str b]]) + List.length (cutL e (some (Int.tmod (IntKind.wrap IntKind.i64 k) (IntKind.wrap IntKind.i64 ((↑(List.length e) : Int) + 1)))) none)) * 32 ≤ 140737488355328) && true && true)
                          (∃ (l5 : List Fld),
                            ∃ (nm6 : List UInt8),
                              ∃ (sz7 : Nat),
                                okFb l5 ∧
                                  szOk sz7 2 (List.length l5) ∧
                                    List.length nm6 ≤ 10000000 ∧
                                      [AV.sl 2 [[AV.str a, AV.str b]] none, AV.str [99, 111, 110, 116, 101, 110, 116, 45, 108, 101, 110, 103, 116, 104]] = [AV.sl sz7 (encFs l5) none, AV.str nm6] ∧
                                        ifP (decide ((↑(List.length (encS (valuesOf l5 nm6))) : Int) > 0)) (true = true ∧ AV.bool true = v)
                                          (∃ (l10 : List Fld),
                                            ∃ (nm11 : List UInt8),
                                              ∃ (sz12 : Nat),
                                                okFb l10 ∧
                                                  szOk sz12 2 (List.length l10) ∧
                                                    List.length nm11 ≤ 10000000 ∧
                                                      [AV.sl 2 [[AV.str a, AV.str b]] none, AV.str [116, 114, 97, 110, 115, 102, 101, 114, 45, 101, 110, 99, 111, 100, 105, 110, 103]] = [AV.sl sz12 (encFs l10) none, AV.str nm11] ∧
                                                        ifP (decide ((↑(List.length (encS (valuesOf l10 nm11))) : Int) > 0)) (true = true ∧ AV.bool true = v)
                                                          (∃ (l15 : List Fld),
                                                            ∃ (sz16 : Nat),
                                                              okFw l15 ∧
                                                                szOk sz16 2 (List.length l15) ∧
                                                                  [AV.sl sz (stripss 0 [] e) none] = [AV.sl sz16 (encFs l15) none] ∧
                                                                    ∃ (l19 : List Fld),
                                                                      ∃ (sz20 : Nat),
                                                                        okFw l19 ∧
                                                                          szOk sz20 2 (List.length l19) ∧
                                                                            [AV.sl 2 (stripss 0 [] ([] ++ cutL e none (some (Int.tmod (IntKind.wrap IntKind.i64 k) (IntKind.wrap IntKind.i64 ((↑(List.length e) : Int) + 1)))) ++ [[AV.str a, AV.str b]] ++ cutL e (some (Int.tmod (IntKind.wrap IntKind.i64 k) (IntKind.wrap IntKind.i64 ((↑(List.length e) : Int) + 1)))) none)) none] = [AV.sl sz20 (encFs l19) none] ∧
                                                                              ∃ (l23 : List Fld),
                                                                                ∃ (sz24 : Nat),
                                                                                  ∃ (st25 : Int),
                                                                                    ∃ (hd26 : Bool),
                                                                                      okFw l23 ∧
                                                                                        szOk sz24 2 (List.length l23) ∧
                                                                                          -9223372036854775808 ≤ st25 ∧
                                                                                            st25 ≤ 9223372036854775807 ∧
                                                                                              [AV.sl sz (stripss 0 [] e) none, AV.int IntKind.i64 200, AV.bool false] = [AV.sl sz24 (encFs l23) none, AV.int IntKind.i64 st25, AV.bool hd26] ∧
                                                                                                ∃ (l29 : List Fld),
                                                                                                  ∃ (sz30 : Nat),
                                                                                                    ∃ (st31 : Int),
                                                                                                      ∃ (hd32 : Bool),
                                                                                                        okFw l29 ∧
                                                                                                          szOk sz30 2 (List.length l29) ∧
                                                                                                            -9223372036854775808 ≤ st31 ∧
                                                                                                              st31 ≤ 9223372036854775807 ∧
                                                                                                                [AV.sl 2 (stripss 0 [] ([] ++ cutL e none (some (Int.tmod (IntKind.wrap IntKind.i64 k) (IntKind.wrap IntKind.i64 ((↑(List.length e) : Int) + 1)))) ++ [[AV.str a, AV.str b]] ++ cutL e (some (Int.tmod (IntKind.wrap IntKind.i64 k) (IntKind.wrap IntKind.i64 ((↑(List.length e) : Int) + 1)))) none)) none, AV.int IntKind.i64 200, AV.bool false] = [AV.sl sz30 (encFs l29) none, AV.int IntKind.i64 st31, AV.bool hd32] ∧
                                                                                                                  ifP (!(Prod.fst (asksF l15) == Prod.fst (asksF l19) && (Prod.fst (Prod.snd (asksF l15)) == Prod.fst (Prod.snd (asksF l19)) && true))) (AV.bool false = v) (ifP (Prod.snd (Prod.snd (asksF l15)) != Prod.snd (Prod.snd (asksF l19))) (AV.bool false = v) (ifP (!(Prod.fst (tellsF l23 st25 hd26) == Prod.fst (tellsF l29 st31 hd32) && (Prod.fst (Prod.snd (tellsF l23 st25 hd26)) == Prod.fst (Prod.snd (tellsF l29 st31 hd32)) && true))) (AV.bool false = v) (ifP (Prod.snd (Prod.snd (tellsF l23 st25 hd26)) != Prod.snd (Prod.snd (tellsF l29 st31 hd32))) (AV.bool false = v) (∃ (l35 : List Fld), ∃ (nm36 : List UInt8), ∃ (sz37 : Nat), okFb l35 ∧ szOk sz37 2 (List.length l35) ∧ List.length nm36 ≤ 10000000 ∧ [AV.sl sz (stripss 0 [] e) none, AV.str [99, 111, 110, 116, 101, 110, 116, 45, 108, 101, 110, 103, 116, 104]] = [AV.sl sz37 (encFs l35) none, AV.str nm36] ∧ ifP ((↑(List.length (encS (valuesOf l35 nm36))) : Int) == 0) (true = true ∧ AV.bool true = v) (gAnd (inR 0 (List.length (encS (valuesOf l35 nm36))) && true && true) (∃ (s40 : List UInt8), getE (encS (valuesOf l35 nm36)) 0 = [AV.str s40] ∧ gAnd (tagOk [Blk.mem 38 [AV.str a, AV.str b], Blk.grow (List.length ([] ++ cutL e none (some (Int.tmod (IntKind.wrap IntKind.i64 k) (IntKind.wrap IntKind.i64 ((↑(List.length e) : Int) + 1)))) ++ [[AV.str a, AV.str b]]) + List.length (cutL e (some (Int.tmod (IntKind.wrap IntKind.i64 k) (IntKind.wrap IntKind.i64 ((↑(List.length e) : Int) + 1)))) none)) 2 38, Blk.grow 1 2 38, Blk.grow 1 2 38, Blk.mem 26 [AV.int IntKind.i64 (Prod.fst (asksF l15)), AV.int IntKind.i64 (Prod.fst (Prod.snd (asksF l15)))], Blk.mem 26 [AV.int IntKind.i64 (Prod.fst (asksF l19)), AV.int IntKind.i64 (Prod.fst (Prod.snd (asksF l19)))], Blk.mem 26 [AV.int IntKind.i64 (Prod.fst (tellsF l23 st25 hd26)), AV.int IntKind.i64 (Prod.fst (Prod.snd (tellsF l23 st25 hd26)))], Blk.mem 26 [AV.int IntKind.i64 (Prod.fst (tellsF l29 st31 hd32)), AV.int IntKind.i64 (Prod.fst (Prod.snd (tellsF l29 st31 hd32)))], Blk.grow 1 2 38] (List.length ([] ++ cutL e none (some (Int.tmod (IntKind.wrap IntKind.i64 k) (IntKind.wrap IntKind.i64 ((↑(List.length e) : Int) + 1)))) ++ [[AV.str a, AV.str b]] ++ cutL e (some (Int.tmod (IntKind.wrap IntKind.i64 k) (IntKind.wrap IntKind.i64 ((↑(List.length e) : Int) + 1)))) none)) 2 38 (some 1) && true && true && true && decide ((List.length ([] ++ cutL e none (some (Int.tmod (IntKind.wrap IntKind.i64 k) (IntKind.wrap IntKind.i64 ((↑(List.length e) : Int) + 1)))) ++ [[AV.str a, AV.str b]] ++ cutL e (some (Int.tmod (IntKind.wrap IntKind.i64 k) (IntKind.wrap IntKind.i64 ((↑(List.length e) : Int) + 1)))) none) + 1) * 32 ≤ 140737488355328) && true && true) (∃ (l41 : List Fld), ∃ (sz42 : Nat), okFw l41 ∧ szOk sz42 2 (List.length l41) ∧ [AV.sl 2 (stripss 0 [] ([] ++ cutL e none (some (Int.tmod (IntKind.wrap IntKind.i64 k) (IntKind.wrap IntKind.i64 ((↑(List.length e) : Int) + 1)))) ++ [[AV.str a, AV.str b]] ++ cutL e (some (Int.tmod (IntKind.wrap IntKind.i64 k) (IntKind.wrap IntKind.i64 ((↑(List.length e) : Int) + 1)))) none ++ [[AV.str [67, 79, 78, 84, 69, 78, 84, 45, 76, 69, 78, 71, 84, 72], AV.str s40]])) none] = [AV.sl sz42 (encFs l41) none] ∧ ifP (Prod.fst (asksF l41) == Prod.fst (asksF l15) && (Prod.fst (Prod.snd (asksF l41)) == Prod.fst (Prod.snd (asksF l15)) && true)) (ifP (Prod.snd (Prod.snd (asksF l41)) == Prod.snd (Prod.snd (asksF l15))) (true = true ∧ AV.bool true = v) (AV.bool false = v)) (AV.bool false = v))))))))))))))))))) := by kernel_rfl
  exact unr_ok hT 100000 _ _ _ _ (e.mpr H)

end Go.Proofs.YtnncfdlpogjlkaaDoor
end

section
namespace Go.Proofs.YtnncfdlpogjlkaaDoor
open Go.Ai Go
set_option linter.unusedSimpArgs false
set_option linter.unusedVariables false
set_option linter.unnecessarySimpa false
set_option maxRecDepth 100000

theorem pf14 : pureFn cfg 14 Tryd.f14 := ⟨by kernel_rfl, by kernel_rfl, by kernel_rfl, by kernel_rfl, by kernel_rfl, by kernel_rfl⟩
theorem pf3 : pureFn cfg 3 Tryd.f3 := ⟨by kernel_rfl, by kernel_rfl, by kernel_rfl, by kernel_rfl, by kernel_rfl, by kernel_rfl⟩
theorem pf4 : pureFn cfg 4 Tryd.f4 := ⟨by kernel_rfl, by kernel_rfl, by kernel_rfl, by kernel_rfl, by kernel_rfl, by kernel_rfl⟩
theorem pf5 : pureFn cfg 5 Tryd.f5 := ⟨by kernel_rfl, by kernel_rfl, by kernel_rfl, by kernel_rfl, by kernel_rfl, by kernel_rfl⟩
theorem c14 : COk cfg 14 Ai.trueC := cok_true (n := 100000) pf14 (by kernel_rfl)

theorem same3 (x : Int × Int × Int) : (x.1 == x.1 && (x.2.1 == x.2.1 && true)) = true := by simp
def fitN (l : List Fld) : Prop := ∀ f ∈ l, (f.name.length : Int) ≤ 9223372036854775807
theorem c3 : COk cfg 3 (fun vs h K => ∃ l : List Fld, fitN l ∧ vs = [.sl 2 (encFs l) none] ∧ K (.bool true) h) := by
  refine cok_pure pf3 fun vs h K ht => ?_
  obtain ⟨l, hf, rfl, hk⟩ := ht
  have hT : TabOk cfg (ctab [(13, fewC), (14, Ai.trueC), (15, askFC), (16, askFC), (18, tellFC), (19, tellFC), (17, sameFsC)]) :=
    ctab_ok (ctab_cons c13 (ctab_cons c14 (ctab_cons c15 (ctab_cons c16 (ctab_cons c18 (ctab_cons c19 (ctab_cons c17 ctab_nil)))))))
  refine ⟨_, hk, t3 hT ⟨l, 2, .inl rfl, hf, by rw [stripss_encFs], ifP_intro (fun _ => ⟨rfl, rfl⟩) fun c => ?_⟩⟩
  have hb : fewB l = true := by simpa using c
  have ho := fewB_ok hb
  have hl : l.length ≤ 80 := by
    unfold fewB at hb
    split at hb
    · cases hb
    · omega
  refine gAnd_intro ?_ ⟨l, 2, ho, .inl rfl, by rw [List.nil_append, stripss_encFs], l, 2, ho, .inl rfl, by rw [stripss_encFs], ?_⟩
  · rw [encFs_len, decide_eq_true (by omega)]; rfl
  · rw [same3]
    refine ifP_intro (fun _ => ifP_intro (fun _ => ⟨l, l, 2, 2, ho.1, .inl rfl, .inl rfl, by rw [List.nil_append, stripss_encFs], ifP_intro (fun _ => ⟨rfl, rfl⟩) fun d => ?_⟩) fun d => ?_) fun d => by cases d
    · rw [sameFs_refl] at d; cases d
    · simp at d
theorem c4 : COk cfg 4 (fun vs h K => ∃ (l : List Fld) (st : Int) (hd : Bool), fitN l ∧ -9223372036854775808 ≤ st ∧ st ≤ 9223372036854775807 ∧ vs = [.sl 2 (encFs l) none, .int .i64 st, .bool hd] ∧ K (.bool true) h) := by
  refine cok_pure pf4 fun vs h K ht => ?_
  obtain ⟨l, st, hd, hf, h0, h1, rfl, hk⟩ := ht
  have hT : TabOk cfg (ctab [(13, fewC), (14, Ai.trueC), (15, askFC), (16, askFC), (18, tellFC), (19, tellFC)]) :=
    ctab_ok (ctab_cons c13 (ctab_cons c14 (ctab_cons c15 (ctab_cons c16 (ctab_cons c18 (ctab_cons c19 ctab_nil))))))
  refine ⟨_, hk, t4 hT ⟨l, 2, .inl rfl, hf, by rw [stripss_encFs], ifP_intro (fun _ => ⟨rfl, rfl⟩) fun c => ?_⟩⟩
  have hb : fewB l = true := by simpa using c
  have ho := fewB_ok hb
  refine ⟨l, 2, st, hd, ho, .inl rfl, h0, h1, by rw [stripss_encFs], l, 2, st, hd, ho, .inl rfl, h0, h1, by rw [stripss_encFs], ?_⟩
  rw [same3]
  refine ifP_intro (fun _ => ifP_intro (fun _ => ⟨rfl, rfl⟩) fun d => ?_) fun d => by cases d
  simp at d

/-! Fields of other names; a length said once more -/
theorem valuesOf_app (a b : List Fld) (nm : List UInt8) : valuesOf (a ++ b) nm = valuesOf a nm ++ valuesOf b nm := by simp [valuesOf]
theorem valuesOf_more {f : Fld} {nm : List UInt8} (h : valuesOf [f] nm = []) (l : List Fld) (q : Nat) : valuesOf (l.take q ++ f :: l.drop q) nm = valuesOf l nm := by
  have e : l.take q ++ f :: l.drop q = l.take q ++ ([f] ++ l.drop q) := rfl
  rw [e, valuesOf_app, valuesOf_app, h, List.nil_append, ← valuesOf_app, List.take_append_drop]
theorem pcs_app : ∀ (a b : List (List UInt8)), pcs (a ++ b) = (pcs a).bind fun x => (pcs b).map (x ++ ·)
  | [], b => by
    simp only [List.nil_append, pcs, Option.bind_some]
    cases pcs b <;> rfl
  | v :: r, b => by
    rw [List.cons_append, pcs, pcs, pcs_app r b]
    split
    · cases pcs r with
      | none => rfl
      | some x => cases pcs b <;> simp
    · rfl
theorem lenV_more {ps q : List (List UInt8)} (h : ∀ x ∈ q, x ∈ ps) (hne : ps ≠ []) : lenV (ps ++ q) = lenV ps := by
  obtain ⟨p, ps', rfl⟩ : ∃ p t, ps = p :: t := by cases ps with | nil => exact absurd rfl hne | cons p t => exact ⟨p, t, rfl⟩
  have all : ∀ f : List UInt8 → Bool, ((p :: ps') ++ q).all f = (p :: ps').all f := fun f => by
    rw [List.all_append]
    cases hb : (p :: ps').all f with
    | false => rfl
    | true =>
      rw [Bool.true_and, List.all_eq_true]
      exact fun x hx => List.all_eq_true.1 hb x (h x hx)
  unfold lenV
  rw [all, all]
  rfl
theorem byLen_more (s : List UInt8) (t : List (List UInt8)) : byLen (s :: t ++ [s]) = byLen (s :: t) := by
  unfold byLen
  rw [pcs_app]
  have hs : pcs [s] = if (splitS 44 s).2 = 0 then some (splitS 44 s).1 else none := by
    rw [pcs]; split <;> simp [pcs]
  rw [hs]
  by_cases h0 : (splitS 44 s).2 = 0
  · rw [if_pos h0]
    cases hp : pcs (s :: t) with
    | none => rfl
    | some ps =>
      have hm : ∀ x ∈ (splitS 44 s).1, x ∈ ps := by
        rw [pcs, if_pos h0] at hp
        cases hr : pcs t with
        | none => rw [hr] at hp; cases hp
        | some rs =>
          rw [hr] at hp
          simp only [Option.map_some, Option.some.injEq] at hp
          subst hp
          exact fun x hx => List.mem_append_left _ hx
      simp only [Option.bind_some, Option.map_some]
      cases ps with
      | nil =>
        have : (splitS 44 s).1 = [] := by
          cases hq : (splitS 44 s).1 with
          | nil => rfl
          | cons y r => rw [hq] at hm; exact absurd (hm y (by simp)) (by simp)
        rw [this]
        rfl
      | cons p ps =>
        have := lenV_more hm (by simp)
        rw [List.cons_append] at this ⊢
        simp only [this]
  · rw [if_neg h0]
    have : pcs (s :: t) = none := by rw [pcs, if_neg h0]
    rw [this]
    rfl
theorem ofV_more (s : List UInt8) (t B : List (List UInt8)) (o : Int) : ofV (s :: t ++ [s]) B o = ofV (s :: t) B o := by
  cases B with
  | nil => rw [List.cons_append, ofV_len, ofV_len, ← List.cons_append, byLen_more]
  | cons b B => rw [List.cons_append, ofV_both, ofV_both]
def clU : List UInt8 := [67, 79, 78, 84, 69, 78, 84, 45, 76, 69, 78, 71, 84, 72]
theorem values_clU (s : List UInt8) : valuesOf [⟨clU, s⟩] clS = [s] ∧ valuesOf [⟨clU, s⟩] teS = [] := by
  constructor
  · rw [valuesOf_cons, if_pos (show (lowS clU == lowS clS) = true by decide)]; rfl
  · rw [valuesOf_cons, if_neg (show ¬ (lowS clU == lowS teS) = true by decide)]; rfl
theorem frm_eq {l m : List Fld} (h1 : valuesOf m clS = valuesOf l clS) (h2 : valuesOf m teS = valuesOf l teS) (o : Int) : frm m o = frm l o := by
  unfold frm; rw [h1, h2]
theorem c5 : COk cfg 5 (fun vs h K => ∃ (l : List Fld) (f : Fld) (k : Nat), fitN l ∧ f.name.length ≤ limB ∧ f.value.length ≤ limB ∧ k < 256 ∧ vs = [.sl 2 (encFs l) none, .agg [.str f.name, .str f.value], .int .u8 k] ∧ K (.bool true) h) := by
  refine cok_pure pf5 fun vs h K ht => ?_
  obtain ⟨l, f, k, hf, hf1, hf2, hk256, rfl, hk⟩ := ht
  have hT : TabOk cfg (ctab [(13, fewC), (14, Ai.trueC), (15, askFB), (18, tellFB), (20, valuesB)]) :=
    ctab_ok (ctab_cons c13 (ctab_cons c14 (ctab_cons c15b (ctab_cons c18b (ctab_cons c20 ctab_nil)))))
  refine ⟨_, hk, t5 hT ⟨l, 2, .inl rfl, hf, by rw [stripss_encFs], ifP_intro (fun _ => ⟨rfl, rfl⟩) fun c => ifP_intro (fun _ => ⟨rfl, rfl⟩) fun d => ?_⟩⟩
  have hb : fewB l = true := by simpa using c
  have ho := fewB_ok hb
  have hl : l.length ≤ 80 := by
    unfold fewB at hb
    split at hb
    · cases hb
    · omega
  have hfl : f.name.length ≤ limB ∧ f.value.length ≤ limB := ⟨hf1, hf2⟩
  have hob := okFb_of ho
  have how := okFw_of ho
  have hw1 : IntKind.wrap .i64 (((encFs l).length : Int) + 1) = ((l.length + 1 : Nat) : Int) := by rw [encFs_len, wrap_in (by omega) (by omega)]; rfl
  have hw2 : IntKind.wrap .i64 (k : Int) = (k : Int) := wrap_in (by omega) (by omega)
  have hq : Int.tmod (IntKind.wrap .i64 (k : Int)) (IntKind.wrap .i64 (((encFs l).length : Int) + 1)) = ((k % (l.length + 1) : Nat) : Int) := by
    rw [hw1, hw2, Int.tmod_eq_emod_of_nonneg (by omega)]; rfl
  have hql : k % (l.length + 1) ≤ l.length := by have := Nat.mod_lt k (show 0 < l.length + 1 by omega); omega
  rw [hq, hw1]
  generalize k % (l.length + 1) = q at *
  have hc1 : cutL (encFs l) none (some (q : Int)) = encFs (l.take q) := by simp [cutL, encFs]
  have hc2 : cutL (encFs l) (some (q : Int)) none = encFs (l.drop q) := by simp [cutL, encFs]
  rw [hc1, hc2]
  have hm : [] ++ encFs (l.take q) ++ [[AV.str f.name, AV.str f.value]] ++ encFs (l.drop q) = encFs (l.take q ++ f :: l.drop q) := by simp [encFs, encF]
  have hm1 : ([] ++ encFs (l.take q) ++ [[AV.str f.name, AV.str f.value]]).length = q + 1 := by simp [encFs]; omega
  have hm2 : ([] ++ encFs (l.take q)).length = q := by simp [encFs]; omega
  have hd1 : (encFs (l.drop q)).length = l.length - q := by simp [encFs]
  have hd2 : (encFs (l.take q)).length = q := by simp [encFs]; omega
  have hml : (l.take q ++ f :: l.drop q).length = l.length + 1 := by simp; omega
  have hmb : okFb (l.take q ++ f :: l.drop q) := by
    refine ⟨by rw [hml]; unfold lim; omega, fun g hg => ?_⟩
    rcases List.mem_append.1 hg with h | h
    · exact hob.2 g (List.mem_of_mem_take h)
    · rcases List.mem_cons.1 h with rfl | h
      · exact hfl
      · exact hob.2 g (List.mem_of_mem_drop h)
  refine gAnd_intro ?_ (gAnd_intro ?_ (gAnd_intro ?_ (gAnd_intro ?_ (gAnd_intro ?_ (gAnd_intro ?_ ⟨[f], clS, 2, ⟨by simp [lim], fun g hg => by simp only [List.mem_singleton] at hg; subst hg; exact hfl⟩, .inl rfl, by decide, rfl, ifP_intro (fun _ => ⟨rfl, rfl⟩) fun n1 => ⟨[f], teS, 2, ⟨by simp [lim], fun g hg => by simp only [List.mem_singleton] at hg; subst hg; exact hfl⟩, .inl rfl, by decide, rfl, ifP_intro (fun _ => ⟨rfl, rfl⟩) fun n2 => ?_⟩⟩)))))
  · rw [decide_eq_false (by omega)]; rfl
  · rw [encFs_len]; simp [cutOb]; omega
  · rw [hd2, decide_eq_true (by omega)]; rfl
  · rw [hm2, hd2, Nat.zero_add, tag_ok rfl, decide_eq_true (by omega)]; rfl
  · rw [encFs_len]; simp [cutOb]; omega
  · rw [hm2, hm1, hd1, tag_ok rfl, decide_eq_true (by omega)]; rfl
  have v1 : valuesOf [f] clS = [] := by
    rw [encS_len] at n1
    cases hv : valuesOf [f] clS with
    | nil => rfl
    | cons a b => rw [hv, pos_cons] at n1; cases n1
  have v2 : valuesOf [f] teS = [] := by
    rw [encS_len] at n2
    cases hv : valuesOf [f] teS with
    | nil => rfl
    | cons a b => rw [hv, pos_cons] at n2; cases n2
  have k1 := valuesOf_more v1 l q
  have k2 := valuesOf_more v2 l q
  have ea : asksF (l.take q ++ f :: l.drop q) = asksF l := by unfold asksF; rw [frm_eq k1 k2]
  have et : tellsF (l.take q ++ f :: l.drop q) 200 false = tellsF l 200 false := by unfold tellsF; rw [frm_eq k1 k2]
  have hmo : okFw (l.take q ++ f :: l.drop q) := ⟨hmb, by rw [k1]; exact how.2.1, by rw [k2]; exact how.2.2⟩
  rw [hm]
  refine ⟨l, 2, how, .inl rfl, by rw [stripss_encFs], l.take q ++ f :: l.drop q, 2, hmo, .inl rfl, by rw [stripss_encFs], l, 2, 200, false, how, .inl rfl, by omega, by omega, by rw [stripss_encFs], l.take q ++ f :: l.drop q, 2, 200, false, hmo, .inl rfl, by omega, by omega, by rw [stripss_encFs], ?_⟩
  rw [ea, et, same3, same3]
  refine ifP_intro (fun g => by cases g) fun _ => ifP_intro (fun g => by simp at g) fun _ => ifP_intro (fun g => by cases g) fun _ => ifP_intro (fun g => by simp at g) fun _ => ⟨l, clS, 2, hob, .inl rfl, by decide, by rw [stripss_encFs]; rfl, ifP_intro (fun _ => ⟨rfl, rfl⟩) fun g => ?_⟩
  have hs := okSs_values ho clS
  cases hv : valuesOf l clS with
  | nil => rw [hv] at g; simp [encS] at g
  | cons s t =>
    rw [hv] at hs
    have hsl := hs.2 s (by simp)
    have hlast : encFs (l.take q ++ f :: l.drop q) ++ [[AV.str [67, 79, 78, 84, 69, 78, 84, 45, 76, 69, 78, 71, 84, 72], AV.str s]] = encFs ((l.take q ++ f :: l.drop q) ++ [⟨clU, s⟩]) := by simp [encFs, encF, clU]
    obtain ⟨u1, u2⟩ := values_clU s
    refine gAnd_intro (by rw [encS_len, inR_of (by omega) (by simp)]; rfl) ⟨s, rfl, gAnd_intro ?_ ⟨(l.take q ++ f :: l.drop q) ++ [⟨clU, s⟩], 2, ?_, .inl rfl, by rw [hlast, stripss_encFs], ?_⟩⟩
    · rw [hm1, hd1, encFs_len, hml]
      have e : q + 1 + (l.length - q) = l.length + 1 := by omega
      rw [e, tag_ok rfl, decide_eq_true (by omega)]; rfl
    · have hx1 : okSs (valuesOf ((l.take q ++ f :: l.drop q) ++ [⟨clU, s⟩]) clS) := by
        rw [valuesOf_app (l.take q ++ f :: l.drop q) _ clS, k1, u1, hv]
        have hvl : (s :: t).length ≤ l.length := by
          rw [← hv]
          unfold valuesOf
          rw [List.length_map]
          exact List.length_filter_le _ _
        refine ⟨by rw [List.length_append]; unfold lim; simp only [List.length_singleton]; omega, fun x hx => ?_⟩
        rcases List.mem_append.1 hx with h | h
        · exact hs.2 x h
        · simp only [List.mem_singleton] at h
          subst h
          exact hsl
      have hx2 : okSs (valuesOf ((l.take q ++ f :: l.drop q) ++ [⟨clU, s⟩]) teS) := by
        rw [valuesOf_app (l.take q ++ f :: l.drop q) _ teS, k2, u2, List.append_nil]
        exact how.2.2
      refine ⟨⟨by rw [List.length_append, hml]; simp [lim]; omega, fun g hg => ?_⟩, hx1, hx2⟩
      rcases List.mem_append.1 hg with h | h
      · exact hmb.2 g h
      · simp only [List.mem_singleton] at h
        subst h
        exact ⟨show clU.length ≤ _ by decide, Nat.le_trans hsl (by decide)⟩
    · have ex : asksF ((l.take q ++ f :: l.drop q) ++ [⟨clU, s⟩]) = asksF l := by
        have : frm ((l.take q ++ f :: l.drop q) ++ [⟨clU, s⟩]) 0 = frm l 0 := by
          unfold frm
          rw [valuesOf_app (l.take q ++ f :: l.drop q) _ clS, valuesOf_app (l.take q ++ f :: l.drop q) _ teS, k1, k2, u1, u2, hv, List.append_nil, ofV_more]
        unfold asksF
        rw [this]
      rw [ex, same3]
      refine ifP_intro (fun _ => ifP_intro (fun _ => ⟨rfl, rfl⟩) fun g => ?_) fun g => by cases g
      simp at g
end Go.Proofs.YtnncfdlpogjlkaaDoor
end

section
namespace Go.Proofs.YtnncfdlpogjlkaaDoor
open Go.Ai Go
set_option linter.unusedSimpArgs false
set_option linter.unusedVariables false

def decF : List AV → Option Fld
  | [.str a, .str b] => some ⟨a, b⟩
  | _ => none
def decFs : List (List AV) → Option (List Fld)
  | [] => some []
  | e :: es => match decF e, decFs es with
    | some f, some l => some (f :: l)
    | _, _ => none
theorem decFs_ok : ∀ {es : List (List AV)} {l : List Fld}, decFs es = some l → es = encFs l
  | [], l, h => by simp only [decFs, Option.some.injEq] at h; subst h; rfl
  | e :: es, l, h => by
    simp only [decFs] at h
    split at h
    · rename_i f l' h1 h2
      injection h with h
      subst h
      have := decFs_ok h2
      subst this
      unfold decF at h1
      split at h1
      · injection h1 with h1; subst h1; rfl
      · cases h1
    · cases h
def okFB (l : List Fld) : Bool := Nat.ble l.length lim && l.all fun f => Nat.ble f.name.length lim && Nat.ble f.value.length lim
theorem okFB_ok {l : List Fld} (h : okFB l = true) : okFs l := by
  simp only [okFB, Bool.and_eq_true, List.all_eq_true] at h
  exact ⟨Nat.le_of_ble_eq_true h.1, fun f hf => ⟨Nat.le_of_ble_eq_true (h.2 f hf).1, Nat.le_of_ble_eq_true (h.2 f hf).2⟩⟩
def gAsk : List AV → Option (Bool × AV)
  | [.sl sz es none] => match decFs es with
    | some l => some (okFB l && (Nat.beq sz 2 || l.isEmpty), .tup [.agg [.int .i64 (asksF l).1, .int .i64 (asksF l).2.1], .int .i64 (asksF l).2.2])
    | none => none
  | _ => none
def gTell : List AV → Option (Bool × AV)
  | [.sl sz es none, .int .i64 st, .bool hd] => match decFs es with
    | some l => some (okFB l && (Nat.beq sz 2 || l.isEmpty) && (decide (-9223372036854775808 ≤ st) && decide (st ≤ 9223372036854775807)), .tup [.agg [.int .i64 (tellsF l st hd).1, .int .i64 (tellsF l st hd).2.1], .int .i64 (tellsF l st hd).2.2])
    | none => none
  | _ => none
theorem pure_encFs (l : List Fld) : pureV.pureVss (encFs l) = true := puress_mem fun x hx => by
  obtain ⟨f, _, rfl⟩ := List.mem_map.1 hx
  rfl
theorem szB {sz : Nat} {l : List Fld} (h : (Nat.beq sz 2 || l.isEmpty) = true) : szOk sz 2 l.length := by
  rw [Bool.or_eq_true] at h
  rcases h with h | h
  · exact .inl (Nat.eq_of_beq_eq_true h)
  · exact .inr (by cases l <;> simp_all)
theorem gAsk_ok {B0 : Nat} {I : World → Prop} (S : Sound cfg I B0) : PrimSpec cfg.P cfg.G I B0 15 gAsk :=
  prim_of_cok S c15 (by kernel_rfl) (by kernel_rfl) fun vs v h => by
    unfold gAsk at h
    split at h
    · rename_i sz es
      split at h
      · rename_i l hl
        simp only [Option.some.injEq, Prod.mk.injEq, Bool.and_eq_true] at h
        obtain ⟨⟨h1, h2⟩, rfl⟩ := h
        obtain rfl := decFs_ok hl
        exact ⟨by simp [pureV.pureVs, pureV, pure_encFs], l, sz, okFB_ok h1, szB h2, rfl, rfl, rfl⟩
      · cases h
    · cases h
theorem gTell_ok {B0 : Nat} {I : World → Prop} (S : Sound cfg I B0) : PrimSpec cfg.P cfg.G I B0 18 gTell :=
  prim_of_cok S c18 (by kernel_rfl) (by kernel_rfl) fun vs v h => by
    unfold gTell at h
    split at h
    · rename_i sz es st hd
      split at h
      · rename_i l hl
        simp only [Option.some.injEq, Prod.mk.injEq, Bool.and_eq_true, decide_eq_true_eq] at h
        obtain ⟨⟨⟨h1, h2⟩, h3, h4⟩, rfl⟩ := h
        obtain rfl := decFs_ok hl
        exact ⟨by simp [pureV.pureVs, pureV, pure_encFs], l, sz, st, hd, okFB_ok h1, szB h2, h3, h4, rfl, rfl, rfl⟩
      · cases h
    · cases h
def primT2 : List (Nat × (List AV → Option (Bool × AV))) := primT ++ [(15, gAsk), (18, gTell)]
noncomputable def cfg2 : Cfg := { cfg with prim := fun f => lookN f primT2 }
theorem pf6 : pureFn cfg2 6 Tryd.f6 := ⟨by kernel_rfl, by kernel_rfl, by kernel_rfl, by kernel_rfl, by kernel_rfl, by kernel_rfl⟩
theorem e6 : isTrue (call cfg2 false 100000 6 [] []) = true := by kernel_rfl
theorem c6 : COk cfg2 6 Ai.trueC := cok_true pf6 e6
end Go.Proofs.YtnncfdlpogjlkaaDoor
end
