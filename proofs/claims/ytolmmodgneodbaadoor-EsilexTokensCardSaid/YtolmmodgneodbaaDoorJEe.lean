/-
  Runs of the functions of a page's pieces, printed by a home tool; each is the kernel's word.
  Pieces of a page's text: what takes back what was given up; the pieces of a text, whole.
  Pieces of a page's text: the pieces of a text, whole: the function under contract.
-/
import Derived.Test.YtolmmodgneodbaaDoorCfg
import Derived.Test.YtolmmodgneodbaaDoorJEo
import Derived.Test.YtolmmodgneodbaaDoorJEd
import Derived.Test.YtolmmodgneodbaaDoorAiRec
import Derived.WalkKit
import Derived.ProofKit
section
namespace Go.Proofs.YtolmmodgneodbaaDoor
open Go.Ai Go Go.Ai.Ex
set_option maxRecDepth 100000
set_option linter.unusedVariables false
theorem t8 {q : Fr → Hp → Prop} {qp : Fr → PX → Hp → Prop} {s : List UInt8} (hT : TabPOk cfg pfE (ctabP [(15, findTC), (16, textTC), (26, showTC)] [(17, failC), (22, openTC), (23, closeTC), (25, hideTC)])) (H :
    ToE cfg 8 (bodyOf Tryd.f8) (QP.mk pfE q qp) [Fm.code [0, 0, 1, 1, 1, 1], Fm.block 0, Fm.code [1, 1, 1, 1, 1]] XT.normal [(0, true, AV.str s), (2, true, AV.ptr 1 0), (3, true, AV.ptr 2 0), (4, true, AV.ptr 3 0), (5, true, AV.ptr 5 0), (6, true, AV.int IntKind.i64 0), (1000000, true, AV.dfr [AV.fn (Fn.func 14) [] [AV.ptr 1 0, AV.ptr 2 0, AV.ptr 3 0]])] [Blk.grow 0 6 32, Blk.mem 23 [AV.sl 6 [] (some 0)], Blk.mem 3 [AV.int IntKind.i64 0], Blk.mem 24 [AV.int IntKind.i64 0], Blk.grow 0 6 32, Blk.mem 45 [AV.str s, AV.int IntKind.i64 0, AV.sl 6 [] (some 4), AV.int IntKind.i64 (-1)]]) :
    ToE cfg 8 (bodyOf Tryd.f8) (QP.mk pfE q qp) ([.code []]) .normal ([(0, true, .str s), (1000000, true, .dfr [])]) ([]) := by
  exact unrP_ok hT 100000 _ _ _ _ (show unrP cfg 8 (bodyOf Tryd.f8) (ctabP [(15, findTC), (16, textTC), (26, showTC)] [(17, failC), (22, openTC), (23, closeTC), (25, hideTC)]) ⟨[[0, 0, 1, 1, 1, 1], [1, 1, 1, 1, 1]], []⟩ (QP.mk pfE q qp) 100000 ([.code []]) .normal ([(0, true, .str s), (1000000, true, .dfr [])]) ([]) from unr_use H (by kernel_rfl))

theorem t8a {q : Fr → Hp → Prop} {qp : Fr → PX → Hp → Prop} {s : List UInt8} {at' : Int} {L : List (List AV)} {hid : Int} {fr : Int} (hT : TabPOk cfg pfE (ctabP [(15, findTC), (16, textTC), (26, showTC)] [(17, failC), (22, openTC), (23, closeTC), (25, hideTC)])) (H :
    ifP (decide (at' < (↑(List.length s) : Int)))
  (∃ (s1 : List UInt8),
    ∃ (a2 : Nat),
      ∃ (l3 : List Tok),
        ∃ (hid4 : Int),
          a2 ≤ List.length s1 ∧
            List.length s1 ≤ 1000000 ∧
              [AV.ptr 5 0] = [AV.ptr 5 0] ∧
                [Blk.grow 0 6 32, Blk.mem 23 [AV.sl 6 [] (some 0)], Blk.mem 3 [AV.int IntKind.i64 0], Blk.mem 24 [AV.int IntKind.i64 0], Blk.grow (List.length L) 6 32, Blk.mem 45 [AV.str s, AV.int IntKind.i64 at', AV.sl 6 L (some 4), AV.int IntKind.i64 hid]] = [Blk.grow 0 6 32, Blk.mem 23 [AV.sl 6 [] (some 0)], Blk.mem 3 [AV.int IntKind.i64 0], Blk.mem 24 [AV.int IntKind.i64 0], Blk.grow (List.length (encTs l3)) 6 32, Blk.mem 45 [AV.str s1, AV.int IntKind.i64 (↑a2 : Int), AV.sl 6 (encTs l3) (some 4), AV.int IntKind.i64 hid4]] ∧
                  (findN s1 a2 (decide (0 ≤ hid4)) = 0 → ToE cfg 8 (bodyOf Tryd.f8) (QP.mk pfE q qp) [Fm.code [0, 0, 1, 1, 1, 1], Fm.block 0, Fm.code [1, 1, 1, 1, 1]] XT.normal [(0, true, AV.str s), (2, true, AV.ptr 1 0), (3, true, AV.ptr 2 0), (4, true, AV.ptr 3 0), (5, true, AV.ptr 5 0), (6, true, AV.int IntKind.i64 fr), (1000000, true, AV.dfr [AV.fn (Fn.func 14) [] [AV.ptr 1 0, AV.ptr 2 0, AV.ptr 3 0]])] [Blk.grow 0 6 32, Blk.mem 23 [AV.sl 6 [] (some 0)], Blk.mem 3 [AV.int IntKind.i64 0], Blk.mem 24 [AV.int IntKind.i64 0], Blk.grow (List.length L) 6 32, Blk.mem 45 [AV.str s, AV.int IntKind.i64 (IntKind.wrap IntKind.i64 (at' + 1)), AV.sl 6 L (some 4), AV.int IntKind.i64 hid]]) ∧
                    (findN s1 a2 (decide (0 ≤ hid4)) = 1 → ∃ (s7 : List UInt8), ∃ (fr8 : Nat), ∃ (a9 : Nat), ∃ (l10 : List Tok), ∃ (hid11 : Int), fr8 ≤ a9 ∧ a9 ≤ List.length s7 ∧ List.length s7 ≤ 1000000 ∧ List.length l10 ≤ List.length s7 ∧ [AV.ptr 5 0, AV.int IntKind.i64 fr] = [AV.ptr 5 0, AV.int IntKind.i64 (↑fr8 : Int)] ∧ [Blk.grow 0 6 32, Blk.mem 23 [AV.sl 6 [] (some 0)], Blk.mem 3 [AV.int IntKind.i64 0], Blk.mem 24 [AV.int IntKind.i64 0], Blk.grow (List.length L) 6 32, Blk.mem 45 [AV.str s, AV.int IntKind.i64 at', AV.sl 6 L (some 4), AV.int IntKind.i64 hid]] = [Blk.grow 0 6 32, Blk.mem 23 [AV.sl 6 [] (some 0)], Blk.mem 3 [AV.int IntKind.i64 0], Blk.mem 24 [AV.int IntKind.i64 0], Blk.grow (List.length (encTs l10)) 6 32, Blk.mem 45 [AV.str s7, AV.int IntKind.i64 (↑a9 : Int), AV.sl 6 (encTs l10) (some 4), AV.int IntKind.i64 hid11]] ∧ ∃ (s12 : List UInt8), ∃ (a13 : Nat), ∃ (l14 : List Tok), ∃ (hid15 : Int), has s12 [60, 101, 115, 105, 58] a13 = true ∧ a13 ≤ List.length s12 ∧ List.length s12 ≤ 1000000 ∧ List.length l14 < List.length s12 ∧ [AV.ptr 5 0] = [AV.ptr 5 0] ∧ [Blk.grow 0 6 32, Blk.mem 23 [AV.sl 6 [] (some 0)], Blk.mem 3 [AV.int IntKind.i64 0], Blk.mem 24 [AV.int IntKind.i64 0], Blk.grow (List.length (encTs (l10 ++ textL s7 fr8 a9))) 6 32, Blk.mem 45 [AV.str s7, AV.int IntKind.i64 (↑a9 : Int), AV.sl 6 (encTs (l10 ++ textL s7 fr8 a9)) (some 4), AV.int IntKind.i64 hid11]] = [Blk.grow 0 6 32, Blk.mem 23 [AV.sl 6 [] (some 0)], Blk.mem 3 [AV.int IntKind.i64 0], Blk.mem 24 [AV.int IntKind.i64 0], Blk.grow (List.length (encTs l14)) 6 32, Blk.mem 45 [AV.str s12, AV.int IntKind.i64 (↑a13 : Int), AV.sl 6 (encTs l14) (some 4), AV.int IntKind.i64 hid15]] ∧ (∀ (p16 : Nat) (e17 : Int), openR s12 a13 = Except.error (p16, e17) → ∀ (a19 : Int) (L20 : List (List AV)) (hid21 : Int), qp [(33, true, AV.fn (Fn.func 22) [AV.ptr 5 0] []), (0, true, AV.str s), (2, true, AV.ptr 1 0), (3, true, AV.ptr 2 0), (4, true, AV.ptr 3 0), (5, true, AV.ptr 5 0), (7, true, AV.fn (Fn.func 22) [AV.ptr 5 0] []), (1000000, true, AV.dfr [AV.fn (Fn.func 14) [] [AV.ptr 1 0, AV.ptr 2 0, AV.ptr 3 0]])] ((↑p16 : Int), e17) [Blk.grow 0 6 32, Blk.mem 23 [AV.sl 6 [] (some 0)], Blk.mem 3 [AV.int IntKind.i64 0], Blk.mem 24 [AV.int IntKind.i64 0], Blk.grow (List.length L20) 6 32, Blk.mem 45 [AV.str s12, AV.int IntKind.i64 a19, AV.sl 6 L20 (some 4), AV.int IntKind.i64 hid21]]) ∧ ∀ (ts22 : List Tok), openR s12 a13 = Except.ok ts22 → ToE cfg 8 (bodyOf Tryd.f8) (QP.mk pfE q qp) [Fm.code [0, 0, 1, 1, 1, 1], Fm.block 0, Fm.code [1, 1, 1, 1, 1]] XT.normal [(0, true, AV.str s), (2, true, AV.ptr 1 0), (3, true, AV.ptr 2 0), (4, true, AV.ptr 3 0), (5, true, AV.ptr 5 0), (6, true, AV.int IntKind.i64 (↑(lastTo ts22 (a13 + 1)) : Int)), (1000000, true, AV.dfr [AV.fn (Fn.func 14) [] [AV.ptr 1 0, AV.ptr 2 0, AV.ptr 3 0]])] [Blk.grow 0 6 32, Blk.mem 23 [AV.sl 6 [] (some 0)], Blk.mem 3 [AV.int IntKind.i64 0], Blk.mem 24 [AV.int IntKind.i64 0], Blk.grow (List.length (encTs (l14 ++ ts22))) 6 32, Blk.mem 45 [AV.str s12, AV.int IntKind.i64 (↑(lastTo ts22 (a13 + 1)) : Int), AV.sl 6 (encTs (l14 ++ ts22)) (some 4), AV.int IntKind.i64 hid15]]) ∧
                      (findN s1 a2 (decide (0 ≤ hid4)) = 2 → ∃ (s25 : List UInt8), ∃ (fr26 : Nat), ∃ (a27 : Nat), ∃ (l28 : List Tok), ∃ (hid29 : Int), fr26 ≤ a27 ∧ a27 ≤ List.length s25 ∧ List.length s25 ≤ 1000000 ∧ List.length l28 ≤ List.length s25 ∧ [AV.ptr 5 0, AV.int IntKind.i64 fr] = [AV.ptr 5 0, AV.int IntKind.i64 (↑fr26 : Int)] ∧ [Blk.grow 0 6 32, Blk.mem 23 [AV.sl 6 [] (some 0)], Blk.mem 3 [AV.int IntKind.i64 0], Blk.mem 24 [AV.int IntKind.i64 0], Blk.grow (List.length L) 6 32, Blk.mem 45 [AV.str s, AV.int IntKind.i64 at', AV.sl 6 L (some 4), AV.int IntKind.i64 hid]] = [Blk.grow 0 6 32, Blk.mem 23 [AV.sl 6 [] (some 0)], Blk.mem 3 [AV.int IntKind.i64 0], Blk.mem 24 [AV.int IntKind.i64 0], Blk.grow (List.length (encTs l28)) 6 32, Blk.mem 45 [AV.str s25, AV.int IntKind.i64 (↑a27 : Int), AV.sl 6 (encTs l28) (some 4), AV.int IntKind.i64 hid29]] ∧ ∃ (s30 : List UInt8), ∃ (a31 : Nat), ∃ (l32 : List Tok), ∃ (hid33 : Int), has s30 [60, 47, 101, 115, 105, 58] a31 = true ∧ a31 ≤ List.length s30 ∧ List.length s30 ≤ 1000000 ∧ List.length l32 ≤ List.length s30 ∧ [AV.ptr 5 0] = [AV.ptr 5 0] ∧ [Blk.grow 0 6 32, Blk.mem 23 [AV.sl 6 [] (some 0)], Blk.mem 3 [AV.int IntKind.i64 0], Blk.mem 24 [AV.int IntKind.i64 0], Blk.grow (List.length (encTs (l28 ++ textL s25 fr26 a27))) 6 32, Blk.mem 45 [AV.str s25, AV.int IntKind.i64 (↑a27 : Int), AV.sl 6 (encTs (l28 ++ textL s25 fr26 a27)) (some 4), AV.int IntKind.i64 hid29]] = [Blk.grow 0 6 32, Blk.mem 23 [AV.sl 6 [] (some 0)], Blk.mem 3 [AV.int IntKind.i64 0], Blk.mem 24 [AV.int IntKind.i64 0], Blk.grow (List.length (encTs l32)) 6 32, Blk.mem 45 [AV.str s30, AV.int IntKind.i64 (↑a31 : Int), AV.sl 6 (encTs l32) (some 4), AV.int IntKind.i64 hid33]] ∧ (∀ (p34 : Nat) (e35 : Int), closeM s30 a31 = Except.error (p34, e35) → ∀ (a37 : Int) (L38 : List (List AV)) (hid39 : Int), qp [(33, true, AV.fn (Fn.func 23) [AV.ptr 5 0] []), (0, true, AV.str s), (2, true, AV.ptr 1 0), (3, true, AV.ptr 2 0), (4, true, AV.ptr 3 0), (5, true, AV.ptr 5 0), (7, true, AV.fn (Fn.func 23) [AV.ptr 5 0] []), (1000000, true, AV.dfr [AV.fn (Fn.func 14) [] [AV.ptr 1 0, AV.ptr 2 0, AV.ptr 3 0]])] ((↑p34 : Int), e35) [Blk.grow 0 6 32, Blk.mem 23 [AV.sl 6 [] (some 0)], Blk.mem 3 [AV.int IntKind.i64 0], Blk.mem 24 [AV.int IntKind.i64 0], Blk.grow (List.length L38) 6 32, Blk.mem 45 [AV.str s30, AV.int IntKind.i64 a37, AV.sl 6 L38 (some 4), AV.int IntKind.i64 hid39]]) ∧ ∀ (t40 : Tok), closeM s30 a31 = Except.ok t40 → ToE cfg 8 (bodyOf Tryd.f8) (QP.mk pfE q qp) [Fm.code [0, 0, 1, 1, 1, 1], Fm.block 0, Fm.code [1, 1, 1, 1, 1]] XT.normal [(0, true, AV.str s), (2, true, AV.ptr 1 0), (3, true, AV.ptr 2 0), (4, true, AV.ptr 3 0), (5, true, AV.ptr 5 0), (6, true, AV.int IntKind.i64 (↑(Tok.to t40) : Int)), (1000000, true, AV.dfr [AV.fn (Fn.func 14) [] [AV.ptr 1 0, AV.ptr 2 0, AV.ptr 3 0]])] [Blk.grow 0 6 32, Blk.mem 23 [AV.sl 6 [] (some 0)], Blk.mem 3 [AV.int IntKind.i64 0], Blk.mem 24 [AV.int IntKind.i64 0], Blk.grow (List.length (encTs (l32 ++ [t40]))) 6 32, Blk.mem 45 [AV.str s30, AV.int IntKind.i64 (↑(Tok.to t40) : Int), AV.sl 6 (encTs (l32 ++ [t40])) (some 4), AV.int IntKind.i64 hid33]]) ∧
                        (findN s1 a2 (decide (0 ≤ hid4)) = 3 → ∃ (s43 : List UInt8), ∃ (fr44 : Nat), ∃ (a45 : Nat), ∃ (l46 : List Tok), ∃ (hid47 : Int), fr44 ≤ a45 ∧ a45 ≤ List.length s43 ∧ List.length s43 ≤ 1000000 ∧ List.length l46 ≤ List.length s43 ∧ [AV.ptr 5 0, AV.int IntKind.i64 fr] = [AV.ptr 5 0, AV.int IntKind.i64 (↑fr44 : Int)] ∧ [Blk.grow 0 6 32, Blk.mem 23 [AV.sl 6 [] (some 0)], Blk.mem 3 [AV.int IntKind.i64 0], Blk.mem 24 [AV.int IntKind.i64 0], Blk.grow (List.length L) 6 32, Blk.mem 45 [AV.str s, AV.int IntKind.i64 at', AV.sl 6 L (some 4), AV.int IntKind.i64 hid]] = [Blk.grow 0 6 32, Blk.mem 23 [AV.sl 6 [] (some 0)], Blk.mem 3 [AV.int IntKind.i64 0], Blk.mem 24 [AV.int IntKind.i64 0], Blk.grow (List.length (encTs l46)) 6 32, Blk.mem 45 [AV.str s43, AV.int IntKind.i64 (↑a45 : Int), AV.sl 6 (encTs l46) (some 4), AV.int IntKind.i64 hid47]] ∧ ∃ (s48 : List UInt8), ∃ (a49 : Nat), ∃ (l50 : List Tok), ∃ (hid51 : Int), a49 + 8 ≤ List.length s48 ∧ List.length s48 ≤ 1000000 ∧ List.length l50 ≤ List.length s48 ∧ [AV.ptr 5 0] = [AV.ptr 5 0] ∧ [Blk.grow 0 6 32, Blk.mem 23 [AV.sl 6 [] (some 0)], Blk.mem 3 [AV.int IntKind.i64 0], Blk.mem 24 [AV.int IntKind.i64 0], Blk.grow (List.length (encTs (l46 ++ textL s43 fr44 a45))) 6 32, Blk.mem 45 [AV.str s43, AV.int IntKind.i64 (↑a45 : Int), AV.sl 6 (encTs (l46 ++ textL s43 fr44 a45)) (some 4), AV.int IntKind.i64 hid47]] = [Blk.grow 0 6 32, Blk.mem 23 [AV.sl 6 [] (some 0)], Blk.mem 3 [AV.int IntKind.i64 0], Blk.mem 24 [AV.int IntKind.i64 0], Blk.grow (List.length (encTs l50)) 6 32, Blk.mem 45 [AV.str s48, AV.int IntKind.i64 (↑a49 : Int), AV.sl 6 (encTs l50) (some 4), AV.int IntKind.i64 hid51]] ∧ (0 ≤ hid51 → ∀ (a53 : Int) (L54 : List (List AV)) (hid55 : Int), qp [(33, true, AV.fn (Fn.func 25) [AV.ptr 5 0] []), (0, true, AV.str s), (2, true, AV.ptr 1 0), (3, true, AV.ptr 2 0), (4, true, AV.ptr 3 0), (5, true, AV.ptr 5 0), (7, true, AV.fn (Fn.func 25) [AV.ptr 5 0] []), (1000000, true, AV.dfr [AV.fn (Fn.func 14) [] [AV.ptr 1 0, AV.ptr 2 0, AV.ptr 3 0]])] ((↑a49 : Int), 13) [Blk.grow 0 6 32, Blk.mem 23 [AV.sl 6 [] (some 0)], Blk.mem 3 [AV.int IntKind.i64 0], Blk.mem 24 [AV.int IntKind.i64 0], Blk.grow (List.length L54) 6 32, Blk.mem 45 [AV.str s48, AV.int IntKind.i64 a53, AV.sl 6 L54 (some 4), AV.int IntKind.i64 hid55]]) ∧ (hid51 < 0 → ToE cfg 8 (bodyOf Tryd.f8) (QP.mk pfE q qp) [Fm.code [0, 0, 1, 1, 1, 1], Fm.block 0, Fm.code [1, 1, 1, 1, 1]] XT.normal [(0, true, AV.str s), (2, true, AV.ptr 1 0), (3, true, AV.ptr 2 0), (4, true, AV.ptr 3 0), (5, true, AV.ptr 5 0), (6, true, AV.int IntKind.i64 (↑(a49 + 8) : Int)), (1000000, true, AV.dfr [AV.fn (Fn.func 14) [] [AV.ptr 1 0, AV.ptr 2 0, AV.ptr 3 0]])] [Blk.grow 0 6 32, Blk.mem 23 [AV.sl 6 [] (some 0)], Blk.mem 3 [AV.int IntKind.i64 0], Blk.mem 24 [AV.int IntKind.i64 0], Blk.grow (List.length (encTs (l50 ++ [Tok.mk 5 [] [] (cut s48 a49 (a49 + 8)) a49 (a49 + 8)]))) 6 32, Blk.mem 45 [AV.str s48, AV.int IntKind.i64 (↑(a49 + 8) : Int), AV.sl 6 (encTs (l50 ++ [Tok.mk 5 [] [] (cut s48 a49 (a49 + 8)) a49 (a49 + 8)])) (some 4), AV.int IntKind.i64 (↑a49 : Int)]])) ∧
                          (findN s1 a2 (decide (0 ≤ hid4)) = 4 → ∃ (s58 : List UInt8), ∃ (fr59 : Nat), ∃ (a60 : Nat), ∃ (l61 : List Tok), ∃ (hid62 : Int), fr59 ≤ a60 ∧ a60 ≤ List.length s58 ∧ List.length s58 ≤ 1000000 ∧ List.length l61 ≤ List.length s58 ∧ [AV.ptr 5 0, AV.int IntKind.i64 fr] = [AV.ptr 5 0, AV.int IntKind.i64 (↑fr59 : Int)] ∧ [Blk.grow 0 6 32, Blk.mem 23 [AV.sl 6 [] (some 0)], Blk.mem 3 [AV.int IntKind.i64 0], Blk.mem 24 [AV.int IntKind.i64 0], Blk.grow (List.length L) 6 32, Blk.mem 45 [AV.str s, AV.int IntKind.i64 at', AV.sl 6 L (some 4), AV.int IntKind.i64 hid]] = [Blk.grow 0 6 32, Blk.mem 23 [AV.sl 6 [] (some 0)], Blk.mem 3 [AV.int IntKind.i64 0], Blk.mem 24 [AV.int IntKind.i64 0], Blk.grow (List.length (encTs l61)) 6 32, Blk.mem 45 [AV.str s58, AV.int IntKind.i64 (↑a60 : Int), AV.sl 6 (encTs l61) (some 4), AV.int IntKind.i64 hid62]] ∧ ∃ (s63 : List UInt8), ∃ (a64 : Nat), ∃ (l65 : List Tok), ∃ (hid66 : Int), a64 + 3 ≤ List.length s63 ∧ List.length s63 ≤ 1000000 ∧ List.length l65 ≤ List.length s63 ∧ [AV.ptr 5 0] = [AV.ptr 5 0] ∧ [Blk.grow 0 6 32, Blk.mem 23 [AV.sl 6 [] (some 0)], Blk.mem 3 [AV.int IntKind.i64 0], Blk.mem 24 [AV.int IntKind.i64 0], Blk.grow (List.length (encTs (l61 ++ textL s58 fr59 a60))) 6 32, Blk.mem 45 [AV.str s58, AV.int IntKind.i64 (↑a60 : Int), AV.sl 6 (encTs (l61 ++ textL s58 fr59 a60)) (some 4), AV.int IntKind.i64 hid62]] = [Blk.grow 0 6 32, Blk.mem 23 [AV.sl 6 [] (some 0)], Blk.mem 3 [AV.int IntKind.i64 0], Blk.mem 24 [AV.int IntKind.i64 0], Blk.grow (List.length (encTs l65)) 6 32, Blk.mem 45 [AV.str s63, AV.int IntKind.i64 (↑a64 : Int), AV.sl 6 (encTs l65) (some 4), AV.int IntKind.i64 hid66]] ∧ ToE cfg 8 (bodyOf Tryd.f8) (QP.mk pfE q qp) [Fm.code [0, 0, 1, 1, 1, 1], Fm.block 0, Fm.code [1, 1, 1, 1, 1]] XT.normal [(0, true, AV.str s), (2, true, AV.ptr 1 0), (3, true, AV.ptr 2 0), (4, true, AV.ptr 3 0), (5, true, AV.ptr 5 0), (6, true, AV.int IntKind.i64 (↑(a64 + 3) : Int)), (1000000, true, AV.dfr [AV.fn (Fn.func 14) [] [AV.ptr 1 0, AV.ptr 2 0, AV.ptr 3 0]])] [Blk.grow 0 6 32, Blk.mem 23 [AV.sl 6 [] (some 0)], Blk.mem 3 [AV.int IntKind.i64 0], Blk.mem 24 [AV.int IntKind.i64 0], Blk.grow (List.length (encTs (l65 ++ [Tok.mk 6 [] [] (cut s63 a64 (a64 + 3)) a64 (a64 + 3)]))) 6 32, Blk.mem 45 [AV.str s63, AV.int IntKind.i64 (↑(a64 + 3) : Int), AV.sl 6 (encTs (l65 ++ [Tok.mk 6 [] [] (cut s63 a64 (a64 + 3)) a64 (a64 + 3)])) (some 4), AV.int IntKind.i64 (-1)]]))
  (ToE cfg 8 (bodyOf Tryd.f8) (QP.mk pfE q qp) [Fm.code [1, 1, 1, 1, 1]] XT.normal [(2, true, AV.ptr 1 0), (3, true, AV.ptr 2 0), (4, true, AV.ptr 3 0), (5, true, AV.ptr 5 0), (6, true, AV.int IntKind.i64 fr), (1000000, true, AV.dfr [AV.fn (Fn.func 14) [] [AV.ptr 1 0, AV.ptr 2 0, AV.ptr 3 0]])] [Blk.grow 0 6 32, Blk.mem 23 [AV.sl 6 [] (some 0)], Blk.mem 3 [AV.int IntKind.i64 0], Blk.mem 24 [AV.int IntKind.i64 0], Blk.grow (List.length L) 6 32, Blk.mem 45 [AV.str s, AV.int IntKind.i64 at', AV.sl 6 L (some 4), AV.int IntKind.i64 hid]])) :
    ToE cfg 8 (bodyOf Tryd.f8) (QP.mk pfE q qp) ([.code [0, 0, 1, 1, 1, 1], .block 0, .code [1, 1, 1, 1, 1]]) .normal ([(0, true, .str s), (2, true, .ptr 1 0), (3, true, .ptr 2 0), (4, true, .ptr 3 0), (5, true, .ptr 5 0), (6, true, .int .i64 fr), (1000000, true, .dfr [.fn (.func 14) [] [.ptr 1 0, .ptr 2 0, .ptr 3 0]])]) (hX s at' L hid) := by
  exact endsP_round hT 100000 (by kernel_rfl) (show unrP cfg 8 (bodyOf Tryd.f8) (ctabP [(15, findTC), (16, textTC), (26, showTC)] [(17, failC), (22, openTC), (23, closeTC), (25, hideTC)]) ⟨[[0, 0, 1, 1, 1, 1], [1, 1, 1, 1, 1]], []⟩ (QP.mk pfE q qp) 100000 ([.code [0, 0, 0, 1, 1, 1, 1], .loop [0, 0, 1, 1, 1, 1] 6, .block 0, .code [1, 1, 1, 1, 1]]) .normal ([(0, true, .str s), (2, true, .ptr 1 0), (3, true, .ptr 2 0), (4, true, .ptr 3 0), (5, true, .ptr 5 0), (6, true, .int .i64 fr), (1000000, true, .dfr [.fn (.func 14) [] [.ptr 1 0, .ptr 2 0, .ptr 3 0]])]) (hX s at' L hid) from unr_use H (by kernel_rfl))

theorem t8b {q : Fr → Hp → Prop} {qp : Fr → PX → Hp → Prop} {s : List UInt8} {at' : Int} {L : List (List AV)} {hid : Int} {fr : Int} (hT : TabPOk cfg pfE (ctabP [(15, findTC), (16, textTC), (26, showTC)] [(17, failC), (22, openTC), (23, closeTC), (25, hideTC)])) (H :
    ∃ (s1 : List UInt8), ∃ (fr2 : Nat), ∃ (a3 : Nat), ∃ (l4 : List Tok), ∃ (hid5 : Int), fr2 ≤ a3 ∧ a3 ≤ List.length s1 ∧ List.length s1 ≤ 1000000 ∧ List.length l4 ≤ List.length s1 ∧ [AV.ptr 5 0, AV.int IntKind.i64 fr] = [AV.ptr 5 0, AV.int IntKind.i64 (↑fr2 : Int)] ∧ [Blk.grow 0 6 32, Blk.mem 23 [AV.sl 6 [] (some 0)], Blk.mem 3 [AV.int IntKind.i64 0], Blk.mem 24 [AV.int IntKind.i64 0], Blk.grow (List.length L) 6 32, Blk.mem 45 [AV.str s, AV.int IntKind.i64 at', AV.sl 6 L (some 4), AV.int IntKind.i64 hid]] = [Blk.grow 0 6 32, Blk.mem 23 [AV.sl 6 [] (some 0)], Blk.mem 3 [AV.int IntKind.i64 0], Blk.mem 24 [AV.int IntKind.i64 0], Blk.grow (List.length (encTs l4)) 6 32, Blk.mem 45 [AV.str s1, AV.int IntKind.i64 (↑a3 : Int), AV.sl 6 (encTs l4) (some 4), AV.int IntKind.i64 hid5]] ∧ ifP (decide (hid5 ≥ 0)) (∃ (p6 : Int), ∃ (e7 : Int), [AV.int IntKind.i64 hid5, AV.int IntKind.i64 14] = [AV.int IntKind.i64 p6, AV.int IntKind.i64 e7] ∧ qp [(50, true, AV.int IntKind.i64 hid5), (49, true, AV.ptr 5 3), (48, true, AV.ptr 5 0), (47, true, AV.ptr 5 0), (2, true, AV.ptr 1 0), (3, true, AV.ptr 2 0), (4, true, AV.ptr 3 0), (5, true, AV.ptr 5 0), (1000000, true, AV.dfr [AV.fn (Fn.func 14) [] [AV.ptr 1 0, AV.ptr 2 0, AV.ptr 3 0]])] (p6, e7) [Blk.grow 0 6 32, Blk.mem 23 [AV.sl 6 [] (some 0)], Blk.mem 3 [AV.int IntKind.i64 0], Blk.mem 24 [AV.int IntKind.i64 0], Blk.grow (List.length (encTs (l4 ++ textL s1 fr2 a3))) 6 32, Blk.mem 45 [AV.str s1, AV.int IntKind.i64 (↑a3 : Int), AV.sl 6 (encTs (l4 ++ textL s1 fr2 a3)) (some 4), AV.int IntKind.i64 hid5]]) (q [(55, true, AV.sl 6 (encTs (l4 ++ textL s1 fr2 a3)) (some 4)), (54, true, AV.ptr 5 2), (53, true, AV.ptr 5 0), (52, true, AV.ptr 5 0), (2, true, AV.ptr 1 0), (3, true, AV.ptr 2 0), (4, true, AV.ptr 3 0), (5, true, AV.ptr 5 0), (1000000, true, AV.dfr [AV.fn (Fn.func 14) [] [AV.ptr 1 0, AV.ptr 2 0, AV.ptr 3 0]])] [Blk.grow 0 6 32, Blk.mem 23 [AV.sl 6 (encTs (l4 ++ textL s1 fr2 a3)) (some 4)], Blk.mem 3 [AV.int IntKind.i64 0], Blk.mem 24 [AV.int IntKind.i64 0], Blk.grow (List.length (encTs (l4 ++ textL s1 fr2 a3))) 6 32, Blk.mem 45 [AV.str s1, AV.int IntKind.i64 (↑a3 : Int), AV.sl 6 (encTs (l4 ++ textL s1 fr2 a3)) (some 4), AV.int IntKind.i64 hid5]])) :
    ToE cfg 8 (bodyOf Tryd.f8) (QP.mk pfE q qp) ([.code [1, 1, 1, 1, 1]]) .normal ([(2, true, .ptr 1 0), (3, true, .ptr 2 0), (4, true, .ptr 3 0), (5, true, .ptr 5 0), (6, true, .int .i64 fr), (1000000, true, .dfr [.fn (.func 14) [] [.ptr 1 0, .ptr 2 0, .ptr 3 0]])]) (hX s at' L hid) := by
  exact unrP_ok hT 100000 _ _ _ _ (show unrP cfg 8 (bodyOf Tryd.f8) (ctabP [(15, findTC), (16, textTC), (26, showTC)] [(17, failC), (22, openTC), (23, closeTC), (25, hideTC)]) ⟨[], []⟩ (QP.mk pfE q qp) 100000 ([.code [1, 1, 1, 1, 1]]) .normal ([(2, true, .ptr 1 0), (3, true, .ptr 2 0), (4, true, .ptr 3 0), (5, true, .ptr 5 0), (6, true, .int .i64 fr), (1000000, true, .dfr [.fn (.func 14) [] [.ptr 1 0, .ptr 2 0, .ptr 3 0]])]) (hX s at' L hid) from unr_use H (by kernel_rfl))

end Go.Proofs.YtolmmodgneodbaaDoor
end

section
namespace Go.Proofs.YtolmmodgneodbaaDoor
open Go.Ai Go Go.Ai.Ex
set_option linter.unusedSimpArgs false
set_option linter.unusedVariables false
set_option maxRecDepth 100000
/-- What a text gives up with. -/
def chE (x : PX) : List PanicEntry := [{ v := .iface 42 (.agg #[.int .i64 x.1, .int .i64 x.2]), recovered := false }]
theorem fail_calls (p e : Int) (w : World) : Calls Tryd.prog 17 #[.int .i64 p, .int .i64 e] w fun en w' => en = .panicked (chE (p, e)) ∧ w' = w := by
  go_enter Tryd.func17, Tryd.f17
  go_wp
  first | exact ⟨rfl, rfl, rfl⟩ | exact ⟨rfl, rfl⟩
theorem pfE_ok {I : World → Prop} {B0 : Nat} : PFOk cfg I B0 chE pfE := by
  intro k vs x h
  unfold pfE at h
  split at h
  · rename_i p e hk
    have hk := Nat.eq_of_beq_eq_true hk
    subst hk
    injection h with h
    subst h
    refine ⟨⟨Tryd.f17, Tryd.func17, by kernel_rfl, by kernel_rfl⟩, fun E args H hr => ?_⟩
    obtain ⟨a, r, rfl, rfl, b, r2, rfl, rfl, rfl⟩ := hr
    exact (fail_calls p e E.w).mono fun en w' ⟨h1, h2⟩ => ⟨h1, E, h2.symm, Step.refl H, rfl⟩
  · cases h
/-- What was put off does nothing where nothing was given up. -/
theorem take_ret (a0 a1 a2 : Value) (w : World) : CallsD Tryd.prog 14 #[a0, a1, a2] .returning w fun en u w' => (∃ v, en = .returned v) ∧ u = .returning ∧ w' = w := by
  refine callsD_of_wpS Tryd.func14 rfl fun c₀ cs hc => ?_
  simp only [Tryd.f14, List.size_toArray, List.length_cons, List.length_nil, Nat.reduceAdd, Nat.reduceSub, Array.replicate_succ, Array.replicate_zero, List.push_toArray, List.append_toArray, List.nil_append, List.cons_append]
  refine wpS_seq (wpS_region ?_)
  have hr : recoverD (c₀ :: cs) = none := by simp [recoverD, hc]
  simp [wpOpsS, go_sem, hr, List.range, List.range.loop]
  refine wpS_of_wp ?_
  go_wp
  simp only [bodyPostS]
  refine ⟨trivial, c₀.mode, rfl, .tuple #[], results_none rfl _ _ _, ⟨_, rfl⟩, hc, trivial⟩
/-- Taking back, as a region's one operation. -/
theorem rec_op {P : Program} {o : Oper} {Q : Exit → Act → List Frame → World → Prop} {a : Act} {cs cs' : List Frame} {v : Value} {w : World} (hg : o.guard = none) {ats : Array TypeId} (hop : o.op = .call { callee := .builtin .recover, args := #[], argTypes := ats })
    (hr : recoverD cs = some (v, cs')) (h : Q .normal (a.put o.dst v) cs' w) : wpOpsS P #[o] Q (List.range (#[o] : Array Oper).size) a cs w := by
  obtain ⟨d, op, ty, pos, after, gd⟩ := o
  simp only at hg hop
  subst hg; subst hop
  simp [wpOpsS, go_sem, hr, List.range, List.range.loop]
  exact h
/-- Where something was given up, it is put into the results. -/
theorem take_pan {I : World → Prop} {B0 : Nat} (S0 : Sound cfg I B0) (p e : Int) {h h2 : Hp} (hrun : ToEnd cfg 14 (bodyOf Tryd.f14) (fun _ h' => h' = h2) [.code [1]] .normal [(0, true, .ptr 1 0), (1, true, .ptr 2 0), (2, true, .ptr 3 0), (6, true, .iface 42 (.agg [.int .i64 p, .int .i64 e]))] h) :
    TakesD cfg I B0 chE 14 [.ptr 1 0, .ptr 2 0, .ptr 3 0] (p, e) h h2 := by
  intro E vals H hE hr
  obtain ⟨x, F', h', ⟨n0, hx⟩, he, hq⟩ := hrun
  have hq : h' = h2 := hq
  subst hq
  refine callsD_of_wpS Tryd.func14 rfl fun c₀ cs hc => ?_
  have hfr := argFr_ok hr 16
  obtain ⟨a0, r0, rfl, k0, a1, r1, rfl, k1, a2, r2, rfl, k2, rfl⟩ := hr
  have hrec : recoverD (c₀ :: cs) = some (.iface 42 (.agg #[.int .i64 p, .int .i64 e]), { c₀ with mode := .panicking [{ v := .iface 42 (.agg #[.int .i64 p, .int .i64 e]), recovered := true }] } :: cs) := by simp [recoverD, hc, chE]
  have hput : FrsOk E (putF (argFr 0 [.ptr 1 0, .ptr 2 0, .ptr 3 0]) (some 6) (true, .iface 42 (.agg [.int .i64 p, .int .i64 e]))) (({ tmps := #[a0, a1, a2] ++ Array.replicate (16 - (#[a0, a1, a2] : Array Value).size) undef, defers := [] } : Act).put (some 6) (.iface 42 (.agg #[.int .i64 p, .int .i64 e]))) :=
    FrsOk.put hfr (n := 16) (by kernel_rfl) (by simp) (fun _ => ⟨_, rfl, _, rfl, _, _, rfl, rfl, rfl, _, _, rfl, rfl, rfl, rfl⟩) (fun h => by cases h)
  have hput2 : FrsOk E [(0, true, .ptr 1 0), (1, true, .ptr 2 0), (2, true, .ptr 3 0), (6, true, .iface 42 (.agg [.int .i64 p, .int .i64 e]))] (({ tmps := #[a0, a1, a2] ++ Array.replicate (16 - (#[a0, a1, a2] : Array Value).size) undef, defers := [] } : Act).put (some 6) (.iface 42 (.agg #[.int .i64 p, .int .i64 e]))) := by
    refine hput.eq fun n => ?_
    simp only [putF, argFr, lk]
    by_cases h6 : n = 6
    · subst h6; rfl
    · have e6 : Nat.beq 6 n = false := by
        cases hb : Nat.beq 6 n with
        | false => rfl
        | true => exact absurd (Nat.eq_of_beq_eq_true hb).symm h6
      rw [e6]
      rfl
  have hcode := S0.codes 14 Tryd.f14 _ (by kernel_rfl) (by kernel_rfl) (by kernel_rfl) Tryd.func14 rfl
  have hcode2 : okCode cfg.P Tryd.f14.ntmps (codeAt (bodyOf Tryd.f14) [1]) = true := by
    have h3 : okCode cfg.P Tryd.f14.ntmps (.seq (codeAt (bodyOf Tryd.f14) [0]) (codeAt (bodyOf Tryd.f14) [1])) = true := hcode
    simp only [okCode, Bool.and_eq_true] at h3
    exact h3.2
  have main := all_ok S0 n0 14 _ _ _ x F' h' _ (hx n0 (Nat.le_refl _)) hcode2 E _ hE H hput2 (by rw [show Tryd.f14.ntmps = 16 from rfl]; simp [Act.put])
  refine wpS_seq (wpS_region (rec_op rfl rfl hrec ?_))
  refine wpS_of_wp (main _ fun E' a' S hE' hf' hs hd => ?_)
  have hd0 : a'.defers = [] := hd.resolve_left (by rw [show cfg.dfr 14 = false by kernel_rfl]; simp)
  have fin : a'.defers = [] ∧ ∃ u', ({ c₀ with mode := .panicking [{ v := .iface 42 (.agg #[.int .i64 p, .int .i64 e]), recovered := true }] } : Frame) :: cs = { c₀ with mode := u' } :: cs ∧ ∃ v, (results Tryd.f14 a'.tmps).run Tryd.prog E'.w = .ok v E'.w ∧
      ((∃ r, (Ending.returned v) = .returned r) ∧ settle u' = .returning ∧ ∃ E2, E2.w = E'.w ∧ Step cfg.G I B0 E E2 ∧ E2.h = h') :=
    ⟨hd0, _, rfl, .tuple #[], results_none rfl _ _ _, ⟨_, rfl⟩, rfl, E', rfl, S, hE'⟩
  cases x with
  | normal => exact fin
  | ret => exact fin
  | _ => cases he
end Go.Proofs.YtolmmodgneodbaaDoor
end

section
namespace Go.Ai.Ex
open Go.Ai Go.RowKit
set_option linter.unusedSimpArgs false
set_option linter.unusedVariables false
def hidI : Option Nat → Int
  | some h => h
  | none => -1
/-- What the function answers. -/
def lexV : Except Bad (List Tok) → AV
  | .ok l => .tup [.sl 6 (encTs l) none, .int .i64 0, .int .i64 0]
  | .error (p, e) => .tup [.sl 0 [] none, .int .i64 p, .int .i64 e]
theorem hid_iff (hid : Option Nat) : decide (0 ≤ hidI hid) = hid.isSome := by
  cases hid with
  | none => rfl
  | some h => simp [hidI]
theorem open_far {s : List UInt8} {tag : Nat} {t : Tok} (hl : tag + 5 ≤ s.length) (h : openM s tag = .ok t) : tag + 6 ≤ t.to ∧ t.to ≤ s.length := by
  unfold openM at h
  simp only at h
  split at h
  · cases h
  · have hn := lets_le s (tag + 5)
    split at h
    · cases h
    · rename_i l b hb
      obtain ⟨q1, q2⟩ := attrsM_ok _ _ _ _ _ (by omega) hb
      obtain ⟨k1, k2, k3, k4, k5, k6⟩ := tagEnd_ok h
      exact ⟨by omega, k6⟩
def fwd (s : List UInt8) (a : Nat) (ts : List Tok) : Prop := a + ts.length ≤ lastTo ts (a + 1) ∧ a < lastTo ts (a + 1) ∧ lastTo ts (a + 1) ≤ s.length
theorem openR_fwd {s : List UInt8} {a : Nat} {ts : List Tok} (hl : a + 5 ≤ s.length) (h : openR s a = .ok ts) : fwd s a ts := by
  unfold openR at h
  split at h
  · cases h
  · rename_i t ht
    obtain ⟨q1, q2⟩ := open_far hl ht
    rcases rawM_ok h with ⟨_, rfl⟩ | ⟨_, _, n, hf, rfl⟩
    · simp only [fwd, lastTo, List.getLast?_singleton, List.length_singleton]; omega
    · have := fnd_le hf
      rw [List.length_drop, List.length_append] at this
      have e : lastTo [t, ⟨7, [], [], (s.drop t.to).take n, t.to, t.to + n⟩] (a + 1) = t.to + n := rfl
      simp only [fwd, e, List.length_cons, List.length_nil]; omega
theorem close_fwd {s : List UInt8} {a : Nat} {t : Tok} (hl : a + 6 ≤ s.length) (h : closeM s a = .ok t) : fwd s a [t] := by
  obtain ⟨_, _, _, _, _, q1, q2⟩ := closeM_ok hl h
  have e : lastTo [t] (a + 1) = t.to := rfl
  simp only [fwd, e, List.length_cons, List.length_nil]; omega
def endB : Option Nat → Except Bad (List Tok)
  | some h => .error (h, 14)
  | none => .ok []
theorem lexG_succ (s : List UInt8) (f a : Nat) (hid : Option Nat) : lexG s (f + 1) a hid =
    if s.length ≤ a then endB hid else
    if spec s a hid.isSome = true then
      match nextM s a hid with
      | .error e => .error e
      | .ok (l, hid2) => match lexG s f (lastTo l (a + 1)) hid2 with
        | .error e => .error e
        | .ok r => .ok (l ++ r)
    else
      match lexG s f (textTo s hid.isSome (s.length - a) a) hid with
      | .error e => .error e
      | .ok r => .ok (⟨1, [], [], cut s a (textTo s hid.isSome (s.length - a) a), a, textTo s hid.isSome (s.length - a) a⟩ :: r) := by
  rw [lexG.eq_def]
  cases hid <;> rfl
theorem lexG_pend {s : List UInt8} {fr a : Nat} {hid : Option Nat} {f : Nat} (hfa : fr ≤ a) (ha : a ≤ s.length) (hno : ∀ j, fr ≤ j → j < a → spec s j hid.isSome = false) (hstop : a = s.length ∨ spec s a hid.isSome = true) (hf : s.length - fr < f) :
    ∃ g, s.length - a < g ∧ lexG s f fr hid = match lexG s g a hid with | .error e => .error e | .ok r => .ok (textL s fr a ++ r) := by
  rcases Nat.eq_or_lt_of_le hfa with rfl | hlt
  · refine ⟨f, hf, ?_⟩
    rw [textL, if_neg (by omega)]
    cases lexG s f fr hid <;> rfl
  · cases f with
    | zero => omega
    | succ f =>
      refine ⟨f, by omega, ?_⟩
      have ht : textTo s hid.isSome (s.length - fr) fr = a := by
        have := textTo_is (s := s) (hid := hid.isSome) (a - fr) (s.length - fr) fr (fun j hj => hno (fr + j) (by omega) (by omega)) (by omega) (by rw [show fr + (a - fr) = a by omega]; exact hstop) (by omega)
        rw [this]; omega
      have h0 : spec s fr hid.isSome = false := hno fr (Nat.le_refl _) hlt
      rw [lexG_succ, if_neg (by omega), if_neg (by rw [h0]; simp)]
      simp only [ht]
      rw [textL, if_pos hlt]
      cases lexG s f a hid <;> rfl
theorem lexG_next {s : List UInt8} {a : Nat} {hid : Option Nat} {g : Nat} (ha : a < s.length) (hsp : spec s a hid.isSome = true) : lexG s (g + 1) a hid = match nextM s a hid with | .error e => .error e | .ok (l, hid2) => (match lexG s g (lastTo l (a + 1)) hid2 with | .error e => .error e | .ok r => .ok (l ++ r)) := by
  rw [lexG_succ, if_neg (by omega), if_pos hsp]
end Go.Ai.Ex
namespace Go.Proofs.YtolmmodgneodbaaDoor
open Go.Ai Go Go.Ai.Ex
set_option linter.unusedSimpArgs false
set_option linter.unusedVariables false
set_option maxRecDepth 100000
theorem c15t : COk cfg 15 findTC := by
  intro l h K ht
  obtain ⟨s, a, l', hid, ha, hs, e1, rfl, h0, h1, h2, h3, h4⟩ := ht
  refine c15 l _ K ⟨s, a, l', hid, ha, hs, e1, rfl, ?_⟩
  unfold findV
  unfold findN at h0 h1 h2 h3 h4
  by_cases q1 : has s opensS a = true
  · rw [if_pos q1] at h1 ⊢; exact h1 rfl
  rw [if_neg q1] at h0 h2 h3 h4 ⊢
  by_cases q2 : has s closesS a = true
  · rw [if_pos q2] at h2 ⊢; exact h2 rfl
  rw [if_neg q2] at h0 h3 h4 ⊢
  by_cases q3 : hideB s a = true
  · rw [if_pos q3] at h3 ⊢; exact h3 rfl
  rw [if_neg q3] at h0 h4 ⊢
  by_cases q4 : (has s showsS a && decide (0 ≤ hid)) = true
  · rw [if_pos q4] at h4 ⊢; exact h4 rfl
  · rw [if_neg q4] at h0 ⊢; exact h0 rfl
theorem tab8 : TabPOk cfg pfE (ctabP [(15, findTC), (16, textTC), (26, showTC)] [(17, failC), (22, openTC), (23, closeTC), (25, hideTC)]) :=
  ctabP_ok (ctab_cons c15t (ctab_cons c16 (ctab_cons c26 ctab_nil))) (tabP_cons c17 (tabP_cons c22 (tabP_cons c23 (tabP_cons c25 tabP_nil))))
def cap14 : List AV := [.ptr 1 0, .ptr 2 0, .ptr 3 0]
theorem rd23 (x : AV) (r : List AV) : rd cfg.P 23 (x :: r) = some x := by kernel_rfl
theorem rd3 (x : AV) (r : List AV) : rd cfg.P 3 (x :: r) = some x := by kernel_rfl
theorem rd24 (x : AV) (r : List AV) : rd cfg.P 24 (x :: r) = some x := by kernel_rfl
theorem res8 {F : Fr} (h2 : lk F 2 = (true, .ptr 1 0)) (h3 : lk F 3 = (true, .ptr 2 0)) (h4 : lk F 4 = (true, .ptr 3 0)) (x0 : Blk) (x y z : AV) (r : Hp) : result cfg.P Tryd.f8 F (x0 :: .mem 23 [x] :: .mem 3 [y] :: .mem 24 [z] :: r) = some (.tup [x, y, z]) := by
  have e : Tryd.f8.results.toList = [.cell 2 23, .cell 3 3, .cell 4 24] := rfl
  unfold result
  rw [e]
  simp only [resAll, resOne, h2, h3, h4, List.getElem?_cons_succ, List.getElem?_cons_zero, List.drop_zero, rd23, rd3, rd24, Option.map_some, Bool.and_self]
section
variable {I : World → Prop} {B0 : Nat}
def qE (v : AV) : Fr → Hp → Prop := fun F h => (lk F dS).2 = .dfr [.fn (.func 14) [] cap14] ∧ ∃ u, result cfg.P Tryd.f8 F h = some u ∧ stripR 0 h u = v
def pE (I : World → Prop) (B0 : Nat) (v : AV) : Fr → PX → Hp → Prop := fun F x h => (lk F dS).2 = .dfr [.fn (.func 14) [] cap14] ∧ ∃ h2 u, TakesD cfg I B0 chE 14 cap14 x h h2 ∧ result cfg.P Tryd.f8 F h2 = some u ∧ stripR 0 h2 u = v
theorem panQ (S0 : Sound cfg I B0) {v : AV} {F : Fr} {s : List UInt8} {p e : Int} (hd : (lk F dS).2 = .dfr [.fn (.func 14) [] cap14]) (h2 : lk F 2 = (true, .ptr 1 0)) (h3 : lk F 3 = (true, .ptr 2 0)) (h4 : lk F 4 = (true, .ptr 3 0))
    (hv : v = .tup [.sl 0 [] none, .int .i64 p, .int .i64 e]) (a : Int) (L : List (List AV)) (hid : Int) : pE I B0 v F (p, e) (hX s a L hid) := by
  refine ⟨hd, _, _, take_pan S0 p e (t14 noT rfl), res8 h2 h3 h4 _ _ _ _ _, ?_⟩
  rw [hv]
  rfl
theorem hid_show {hid : Option Nat} : hidI none = -1 := rfl

theorem tok_end (S0 : Sound cfg I B0) {v : AV} {s : List UInt8} {fr : Nat} {l : List Tok} {hid : Option Nat} (hs : s.length ≤ limE) (hfr : fr ≤ s.length) (hl : l.length ≤ s.length) (hno : ∀ j, fr ≤ j → j < s.length → spec s j hid.isSome = false) {f : Nat} (hf : s.length - fr < f)
    (hv : v = lexV (match lexG s f fr hid with | .error e => .error e | .ok r => .ok (l ++ r))) :
    ToE cfg 8 (bodyOf Tryd.f8) (QP.mk pfE (qE v) (pE I B0 v)) [.code [1, 1, 1, 1, 1]] .normal [(2, true, .ptr 1 0), (3, true, .ptr 2 0), (4, true, .ptr 3 0), (5, true, .ptr 5 0), (6, true, .int .i64 fr), (1000000, true, .dfr [.fn (.func 14) [] cap14])] (hX s (s.length : Nat) (encTs l) (hidI hid)) := by
  obtain ⟨g, hg, e⟩ := lexG_pend (f := f) hfr (Nat.le_refl _) hno (.inl rfl) hf
  obtain ⟨g, rfl⟩ : ∃ k, g = k + 1 := ⟨g - 1, by omega⟩
  have eg : lexG s (g + 1) s.length hid = endB hid := by
    rw [lexG_succ, if_pos (Nat.le_refl _)]
  rw [e, eg] at hv
  refine t8b tab8 ⟨s, fr, s.length, l, hidI hid, hfr, Nat.le_refl _, hs, hl, rfl, rfl, ifP_intro (fun x => ⟨_, 14, rfl, ?_⟩) fun x => ?_⟩
  · cases hid with
    | none => simp [hidI] at x
    | some h => exact panQ S0 rfl rfl rfl rfl hv _ _ _
  · cases hid with
    | some h => simp [hidI] at x
    | none =>
      simp only [endB, List.append_nil] at hv
      refine ⟨rfl, _, res8 rfl rfl rfl _ _ _ _ _, ?_⟩
      rw [hv]
      show AV.tup [.sl 6 (stripss 0 _ (encTs (l ++ textL s fr s.length))) none, .int .i64 0, .int .i64 0] = _
      rw [stripTs]
      rfl

theorem tok_loop (S0 : Sound cfg I B0) {v : AV} {s : List UInt8} (hs : s.length ≤ limE) : ∀ (n a fr : Nat) (l : List Tok) (hid : Option Nat) (f : Nat), s.length - a ≤ n → fr ≤ a → a ≤ s.length → l.length ≤ fr → (∀ j, fr ≤ j → j < a → spec s j hid.isSome = false) → s.length - fr < f →
    v = lexV (match lexG s f fr hid with | .error e => .error e | .ok r => .ok (l ++ r)) →
    ToE cfg 8 (bodyOf Tryd.f8) (QP.mk pfE (qE v) (pE I B0 v)) [.code [0, 0, 1, 1, 1, 1], .block 0, .code [1, 1, 1, 1, 1]] .normal [(0, true, .str s), (2, true, .ptr 1 0), (3, true, .ptr 2 0), (4, true, .ptr 3 0), (5, true, .ptr 5 0), (6, true, .int .i64 fr), (1000000, true, .dfr [.fn (.func 14) [] cap14])] (hX s (a : Nat) (encTs l) (hidI hid)) := by
  intro n
  induction n with
  | zero =>
    intro a fr l hid f hn hfr ha hl hno hf hv
    have : a = s.length := by omega
    subst this
    refine t8a tab8 (ifP_intro (fun x => by simp at x) fun x => ?_)
    exact tok_end S0 hs hfr (by omega) hno hf hv
  | succ n ih =>
    intro a fr l hid f hn hfr ha hl hno hf hv
    by_cases hal : a = s.length
    · subst hal
      refine t8a tab8 (ifP_intro (fun x => by simp at x) fun x => ?_)
      exact tok_end S0 hs hfr (by omega) hno hf hv
    have hlt : a < s.length := by omega
    have hspec : spec s a hid.isSome = decide (findN s a hid.isSome ≠ 0) := by
      unfold spec findN
      cases has s opensS a <;> cases has s closesS a <;> cases hideB s a <;> cases has s showsS a <;> cases hid.isSome <;> rfl
    -- what is done with a piece that is taken
    have take : ∀ (ts : List Tok) (hid2 : Option Nat), spec s a hid.isSome = true → nextM s a hid = .ok (ts, hid2) → fwd s a ts →
        ToE cfg 8 (bodyOf Tryd.f8) (QP.mk pfE (qE v) (pE I B0 v)) [.code [0, 0, 1, 1, 1, 1], .block 0, .code [1, 1, 1, 1, 1]] .normal [(0, true, .str s), (2, true, .ptr 1 0), (3, true, .ptr 2 0), (4, true, .ptr 3 0), (5, true, .ptr 5 0), (6, true, .int .i64 ((lastTo ts (a + 1) : Nat) : Int)), (1000000, true, .dfr [.fn (.func 14) [] cap14])]
          (hX s ((lastTo ts (a + 1) : Nat) : Int) (encTs ((l ++ textL s fr a) ++ ts)) (hidI hid2)) := by
      intro ts hid2 hsp hnx hfw
      obtain ⟨w1, w2, w3⟩ := hfw
      obtain ⟨g, hg, e⟩ := lexG_pend (f := f) hfr ha hno (.inr hsp) hf
      obtain ⟨g, rfl⟩ : ∃ k, g = k + 1 := ⟨g - 1, by omega⟩
      rw [lexG_next hlt hsp, hnx] at e
      simp only at e
      have htl : (textL s fr a).length ≤ a - fr := by
        unfold textL
        split
        · simp; omega
        · simp
      refine ih (lastTo ts (a + 1)) (lastTo ts (a + 1)) _ hid2 g (by omega) (Nat.le_refl _) w3 ?_ (fun j h1 h2 => by omega) (by omega) ?_
      · simp only [List.length_append]; omega
      · rw [hv, e]
        cases lexG s g (lastTo ts (a + 1)) hid2 with
        | error e => rfl
        | ok r => simp only [List.append_assoc]
    have bad : ∀ (p : Nat) (e : Int), spec s a hid.isSome = true → nextM s a hid = .error (p, e) → v = .tup [.sl 0 [] none, .int .i64 p, .int .i64 e] := by
      intro p e hsp hnx
      obtain ⟨g, hg, eq⟩ := lexG_pend (f := f) hfr ha hno (.inr hsp) hf
      obtain ⟨g, rfl⟩ : ∃ k, g = k + 1 := ⟨g - 1, by omega⟩
      rw [lexG_next hlt hsp, hnx] at eq
      rw [hv, eq]
      rfl
    have hll : (l ++ textL s fr a).length ≤ a := by
      have htl : (textL s fr a).length ≤ a - fr := by
        unfold textL
        split
        · simp; omega
        · simp
      simp only [List.length_append]; omega
    refine t8a tab8 (ifP_intro (fun _ => ⟨s, a, l, hidI hid, ha, hs, rfl, rfl, fun q => ?_, fun q => ?_, fun q => ?_, fun q => ?_, fun q => ?_⟩) fun x => by simp at x; omega)
    all_goals rw [hid_iff] at q
    · rw [wrap_nat (by omega)]
      refine ih (a + 1) fr l hid f (by omega) (by omega) (by omega) hl (fun j h1 h2 => ?_) hf hv
      rcases Nat.lt_or_ge j a with h | h
      · exact hno j h1 h
      · have : j = a := by omega
        subst this
        rw [hspec, q]; rfl
    · have hsp : spec s a hid.isSome = true := by rw [hspec, q]; rfl
      have ho : has s opensS a = true := by
        unfold findN at q
        by_cases h : has s opensS a = true
        · exact h
        · rw [if_neg h] at q; split at q <;> (try split at q) <;> (try split at q) <;> omega
      have h5 : a + 5 ≤ s.length := has_le ho (by decide)
      have hnx : nextM s a hid = match openR s a with | .error e => .error e | .ok ts => .ok (ts, hid) := by
        unfold nextM openR
        rw [if_pos ho]
        cases openM s a with
        | error e => rfl
        | ok t => simp only; cases rawM s t <;> rfl
      refine ⟨s, fr, a, l, hidI hid, hfr, ha, hs, by omega, rfl, rfl, s, a, _, hidI hid, ho, ha, hs, by omega, rfl, rfl, fun p e he a19 L20 hid21 => panQ S0 rfl rfl rfl rfl (bad p e hsp (by rw [hnx, he])) _ _ _, fun ts he => ?_⟩
      exact take ts hid hsp (by rw [hnx, he]) (openR_fwd h5 he)
    · have hsp : spec s a hid.isSome = true := by rw [hspec, q]; rfl
      have ho : ¬ has s opensS a = true := fun h => by unfold findN at q; rw [if_pos h] at q; cases q
      have hc : has s closesS a = true := by
        unfold findN at q
        rw [if_neg ho] at q
        by_cases h : has s closesS a = true
        · exact h
        · rw [if_neg h] at q; split at q <;> (try split at q) <;> omega
      have h6 : a + 6 ≤ s.length := has_le hc (by decide)
      have hnx : nextM s a hid = match closeM s a with | .error e => .error e | .ok t => .ok ([t], hid) := by
        unfold nextM
        rw [if_neg ho, if_pos hc]
        cases closeM s a <;> rfl
      refine ⟨s, fr, a, l, hidI hid, hfr, ha, hs, by omega, rfl, rfl, s, a, _, hidI hid, hc, ha, hs, by omega, rfl, rfl, fun p e he a19 L20 hid21 => panQ S0 rfl rfl rfl rfl (bad p e hsp (by rw [hnx, he])) _ _ _, fun t he => ?_⟩
      exact take [t] hid hsp (by rw [hnx, he]) (close_fwd h6 he)
    · have hsp : spec s a hid.isSome = true := by rw [hspec, q]; rfl
      have ho : ¬ has s opensS a = true := fun h => by unfold findN at q; rw [if_pos h] at q; cases q
      have hc : ¬ has s closesS a = true := fun h => by unfold findN at q; rw [if_neg ho, if_pos h] at q; cases q
      have hh : hideB s a = true := by
        unfold findN at q
        rw [if_neg ho, if_neg hc] at q
        by_cases h : hideB s a = true
        · exact h
        · rw [if_neg h] at q; split at q <;> omega
      have h8 : a + 8 ≤ s.length := by
        unfold hideB at hh
        simp only [Bool.and_eq_true, decide_eq_true_eq] at hh
        omega
      have hnx : nextM s a hid = if hid.isSome = true then .error (a, 13) else .ok ([⟨5, [], [], cut s a (a + 8), a, a + 8⟩], some a) := by
        unfold nextM
        rw [if_neg ho, if_neg hc, if_pos hh]
      refine ⟨s, fr, a, l, hidI hid, hfr, ha, hs, by omega, rfl, rfl, s, a, _, hidI hid, h8, hs, by omega, rfl, rfl, fun hp a53 L54 hid55 => ?_, fun hp => ?_⟩
      · have : hid.isSome = true := by rw [← hid_iff]; simpa using hp
        rw [if_pos this] at hnx
        exact panQ S0 rfl rfl rfl rfl (bad a 13 hsp hnx) _ _ _
      · have : ¬ hid.isSome = true := by rw [← hid_iff]; simp; omega
        rw [if_neg this] at hnx
        exact take [⟨5, [], [], cut s a (a + 8), a, a + 8⟩] (some a) hsp hnx ⟨by show a + 1 ≤ a + 8; omega, by show a < a + 8; omega, h8⟩
    · have hsp : spec s a hid.isSome = true := by rw [hspec, q]; rfl
      have ho : ¬ has s opensS a = true := fun h => by unfold findN at q; rw [if_pos h] at q; cases q
      have hc : ¬ has s closesS a = true := fun h => by unfold findN at q; rw [if_neg ho, if_pos h] at q; cases q
      have hh : ¬ hideB s a = true := fun h => by unfold findN at q; rw [if_neg ho, if_neg hc, if_pos h] at q; cases q
      have hw : has s showsS a = true := (spec_show hsp ho hc hh).1
      have h3 : a + 3 ≤ s.length := has_le hw (by decide)
      have hcut : cut s a (a + 3) = showsS := by
        have := List.prefix_iff_eq_take.1 (List.isPrefixOf_iff_prefix.1 hw)
        rw [cut_take]
        exact this.symm
      have hnx : nextM s a hid = .ok ([⟨6, [], [], cut s a (a + 3), a, a + 3⟩], none) := by
        unfold nextM
        rw [if_neg ho, if_neg hc, if_neg hh, hcut]
      refine ⟨s, fr, a, l, hidI hid, hfr, ha, hs, by omega, rfl, rfl, s, a, _, hidI hid, h3, hs, by omega, rfl, rfl, ?_⟩
      exact take [⟨6, [], [], cut s a (a + 3), a, a + 3⟩] none hsp hnx ⟨by show a + 1 ≤ a + 3; omega, by show a < a + 3; omega, h3⟩

theorem tokens_run (S0 : Sound cfg I B0) {s : List UInt8} (hs : s.length ≤ limE) : ToE cfg 8 (bodyOf Tryd.f8) (recQ cfg I B0 chE pfE Tryd.f8 14 cap14 (lexV (lexM s))) [.code []] .normal (argFr 0 [.str s] ++ [(dS, true, .dfr [])]) [] := by
  show ToE cfg 8 (bodyOf Tryd.f8) (QP.mk pfE (qE (lexV (lexM s))) (pE I B0 (lexV (lexM s)))) [.code []] .normal [(0, true, .str s), (1000000, true, .dfr [])] []
  refine t8 tab8 (tok_loop S0 hs s.length 0 0 [] none (s.length + 1) (by omega) (by omega) (by omega) (by simp) (fun j _ h => by omega) (by omega) ?_)
  unfold lexM
  cases lexG s (s.length + 1) 0 none <;> rfl
/-- The pieces of a text, as a primitive. -/
def lexP : List AV → Option (Bool × AV)
  | [.str s] => some (Nat.ble s.length 1000000, lexV (lexM s))
  | _ => none
theorem lexP_ok (S0 : Sound cfg I B0) : PrimSpec Tryd.prog cfg.G I B0 8 lexP := by
  intro vs v hv E args hE hB H hr
  unfold lexP at hv
  split at hv
  · rename_i s
    simp only [Option.some.injEq, Prod.mk.injEq] at hv
    obtain ⟨hs, rfl⟩ := hv
    refine rec_calls S0 pfE_ok (by kernel_rfl) (by kernel_rfl) (by kernel_rfl) Tryd.func8 (by kernel_rfl) (by kernel_rfl) ⟨Tryd.f14, Tryd.func14, by kernel_rfl, by kernel_rfl⟩ (fun vals w hl => ?_) rfl (tokens_run S0 (Nat.le_of_ble_eq_true hs)) H hr
    match vals, hl with
    | [a0, a1, a2], _ => exact take_ret a0 a1 a2 w
  · cases hv
end
end Go.Proofs.YtolmmodgneodbaaDoor
end
