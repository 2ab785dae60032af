/-
  Runs of the functions of trees, printed by a home tool; each is the kernel's word.
  Which trees are pages: check, and what looks at a page.
  Trees with a text of many bytes that are zero; contracts of the functions that look at them, and that tell them. No statement about the program is made here.
-/
import Derived.Test.YtafflebdjmnihaaDoorCfg
import Derived.Test.YtafflebdjmnihaaDoorJPa
import Derived.Test.YtafflebdjmnihaaDoorJPc
import Derived.Test.YtafflebdjmnihaaDoorAiPrims3
section
namespace Go.Proofs.YtafflebdjmnihaaDoor
open Go.Ai Go
set_option maxRecDepth 100000
set_option linter.unusedVariables false
theorem t18a {N : Nat} {v : AV} {xk xp : Int} {xt : List UInt8} {xa xs : List (List AV)} {d b : Int} {hid : Bool} (hT : TabOk cfg (ctab [(18, checkC N), (25, keepC), (26, rulesC), (27, textC), (28, leafC), (29, fitC)])) (H :
    ifP (xk == 14) (ifP hid (AV.int IntKind.i64 13 = v) (ToEnd cfg 18 (bodyOf Tryd.f18) (RetIs Tryd.prog Tryd.f18 v) [Fm.code [1, 1, 0, 0, 1], Fm.block 0, Fm.code [1, 1]] XT.normal [(2, true, AV.int IntKind.i64 b), (3, true, AV.ptr 0 0), (4, true, AV.ptr 1 0)] [Blk.mem 27 [AV.int IntKind.i64 xk, AV.int IntKind.i64 xp, AV.str xt, AV.sl 3 xa none, AV.sl 5 xs none], Blk.mem 57 [AV.int IntKind.i64 d, AV.bool hid]])) (ToEnd cfg 18 (bodyOf Tryd.f18) (RetIs Tryd.prog Tryd.f18 v) [Fm.code [1, 1, 0, 0, 1], Fm.block 0, Fm.code [1, 1]] XT.normal [(2, true, AV.int IntKind.i64 b), (3, true, AV.ptr 0 0), (4, true, AV.ptr 1 0)] [Blk.mem 27 [AV.int IntKind.i64 xk, AV.int IntKind.i64 xp, AV.str xt, AV.sl 3 xa none, AV.sl 5 xs none], Blk.mem 57 [AV.int IntKind.i64 d, AV.bool hid]])) :
    ToEnd cfg 18 (bodyOf Tryd.f18) (RetIs Tryd.prog Tryd.f18 v) ([.code []]) .normal ([(0, true, .agg [.int .i64 xk, .int .i64 xp, .str xt, .sl 3 xa none, .sl 5 xs none]), (1, true, .agg [.int .i64 d, .bool hid]), (2, true, .int .i64 b)]) ([]) := by
  have e : unr cfg 18 (bodyOf Tryd.f18) (ctab [(18, checkC N), (25, keepC), (26, rulesC), (27, textC), (28, leafC), (29, fitC)]) ⟨[[1, 1, 0, 0, 1], [1, 1, 1, 1, 0, 0, 1], [1, 1, 1, 1, 1, 1, 0, 0, 1], [1, 1, 1, 1, 1, 1, 1, 1, 0, 0, 1], [1, 1], [0, 1, 0, 1, 1, 1, 1]], [([0, 0, 0, 1, 1, 0, 0, 1, 0, 1, 1, 1, 1], 1, [.int .i64, .int .i64, .str, .sl 3, .sl 5])]⟩ (RetIs Tryd.prog Tryd.f18 v) 100000 ([.code []]) .normal ([(0, true, .agg [.int .i64 xk, .int .i64 xp, .str xt, .sl 3 xa none, .sl 5 xs none]), (1, true, .agg [.int .i64 d, .bool hid]), (2, true, .int .i64 b)]) ([]) =
    (ifP (xk == 14) (ifP hid (AV.int IntKind.i64 13 = v) (ToEnd cfg 18 (bodyOf Tryd.f18) (RetIs Tryd.prog Tryd.f18 v) [Fm.code [1, 1, 0, 0, 1], Fm.block 0, Fm.code [1, 1]] XT.normal [(2, true, AV.int IntKind.i64 b), (3, true, AV.ptr 0 0), (4, true, AV.ptr 1 0)] [Blk.mem 27 [AV.int IntKind.i64 xk, AV.int IntKind.i64 xp, AV.str xt, AV.sl 3 xa none, AV.sl 5 xs none], Blk.mem 57 [AV.int IntKind.i64 d, AV.bool hid]])) (ToEnd cfg 18 (bodyOf Tryd.f18) (RetIs Tryd.prog Tryd.f18 v) [Fm.code [1, 1, 0, 0, 1], Fm.block 0, Fm.code [1, 1]] XT.normal [(2, true, AV.int IntKind.i64 b), (3, true, AV.ptr 0 0), (4, true, AV.ptr 1 0)] [Blk.mem 27 [AV.int IntKind.i64 xk, AV.int IntKind.i64 xp, AV.str xt, AV.sl 3 xa none, AV.sl 5 xs none], Blk.mem 57 [AV.int IntKind.i64 d, AV.bool hid]])) := by kernel_rfl
  exact unr_ok hT 100000 _ _ _ _ (e.mpr H)

theorem t18b {N : Nat} {v : AV} {xk xp : Int} {xt : List UInt8} {xa xs : List (List AV)} {d b : Int} {hid : Bool} (hT : TabOk cfg (ctab [(18, checkC N), (25, keepC), (26, rulesC), (27, textC), (28, leafC), (29, fitC)])) (H :
    ifP (xk != 2) (ifP (decide (d > 16)) (AV.int IntKind.i64 3 = v) (ToEnd cfg 18 (bodyOf Tryd.f18) (RetIs Tryd.prog Tryd.f18 v) [Fm.code [1, 1, 1, 1, 0, 0, 1], Fm.block 0, Fm.code [1, 1]] XT.normal [(2, true, AV.int IntKind.i64 b), (3, true, AV.ptr 0 0), (4, true, AV.ptr 1 0)] [Blk.mem 27 [AV.int IntKind.i64 xk, AV.int IntKind.i64 xp, AV.str xt, AV.sl 3 xa none, AV.sl 5 xs none], Blk.mem 57 [AV.int IntKind.i64 d, AV.bool hid]])) (ToEnd cfg 18 (bodyOf Tryd.f18) (RetIs Tryd.prog Tryd.f18 v) [Fm.code [1, 1, 1, 1, 0, 0, 1], Fm.block 0, Fm.code [1, 1]] XT.normal [(2, true, AV.int IntKind.i64 b), (3, true, AV.ptr 0 0), (4, true, AV.ptr 1 0)] [Blk.mem 27 [AV.int IntKind.i64 xk, AV.int IntKind.i64 xp, AV.str xt, AV.sl 3 xa none, AV.sl 5 xs none], Blk.mem 57 [AV.int IntKind.i64 d, AV.bool hid]])) :
    ToEnd cfg 18 (bodyOf Tryd.f18) (RetIs Tryd.prog Tryd.f18 v) ([.code [1, 1, 0, 0, 1], .block 0, .code [1, 1]]) .normal ([(2, true, .int .i64 b), (3, true, .ptr 0 0), (4, true, .ptr 1 0)]) ([.mem 27 [.int .i64 xk, .int .i64 xp, .str xt, .sl 3 xa none, .sl 5 xs none], .mem 57 [.int .i64 d, .bool hid]]) := by
  have e : unr cfg 18 (bodyOf Tryd.f18) (ctab [(18, checkC N), (25, keepC), (26, rulesC), (27, textC), (28, leafC), (29, fitC)]) ⟨[[1, 1, 1, 1, 0, 0, 1], [1, 1, 1, 1, 1, 1, 0, 0, 1], [1, 1, 1, 1, 1, 1, 1, 1, 0, 0, 1], [1, 1], [0, 1, 0, 1, 1, 1, 1]], [([0, 0, 0, 1, 1, 0, 0, 1, 0, 1, 1, 1, 1], 1, [.int .i64, .int .i64, .str, .sl 3, .sl 5])]⟩ (RetIs Tryd.prog Tryd.f18 v) 100000 ([.code [1, 1, 0, 0, 1], .block 0, .code [1, 1]]) .normal ([(2, true, .int .i64 b), (3, true, .ptr 0 0), (4, true, .ptr 1 0)]) ([.mem 27 [.int .i64 xk, .int .i64 xp, .str xt, .sl 3 xa none, .sl 5 xs none], .mem 57 [.int .i64 d, .bool hid]]) =
    (ifP (xk != 2) (ifP (decide (d > 16)) (AV.int IntKind.i64 3 = v) (ToEnd cfg 18 (bodyOf Tryd.f18) (RetIs Tryd.prog Tryd.f18 v) [Fm.code [1, 1, 1, 1, 0, 0, 1], Fm.block 0, Fm.code [1, 1]] XT.normal [(2, true, AV.int IntKind.i64 b), (3, true, AV.ptr 0 0), (4, true, AV.ptr 1 0)] [Blk.mem 27 [AV.int IntKind.i64 xk, AV.int IntKind.i64 xp, AV.str xt, AV.sl 3 xa none, AV.sl 5 xs none], Blk.mem 57 [AV.int IntKind.i64 d, AV.bool hid]])) (ToEnd cfg 18 (bodyOf Tryd.f18) (RetIs Tryd.prog Tryd.f18 v) [Fm.code [1, 1, 1, 1, 0, 0, 1], Fm.block 0, Fm.code [1, 1]] XT.normal [(2, true, AV.int IntKind.i64 b), (3, true, AV.ptr 0 0), (4, true, AV.ptr 1 0)] [Blk.mem 27 [AV.int IntKind.i64 xk, AV.int IntKind.i64 xp, AV.str xt, AV.sl 3 xa none, AV.sl 5 xs none], Blk.mem 57 [AV.int IntKind.i64 d, AV.bool hid]])) := by kernel_rfl
  exact unr_ok hT 100000 _ _ _ _ (e.mpr H)

theorem t18c {N : Nat} {v : AV} {xk xp : Int} {xt : List UInt8} {xa xs : List (List AV)} {d b : Int} {hid : Bool} (hT : TabOk cfg (ctab [(18, checkC N), (25, keepC), (26, rulesC), (27, textC), (28, leafC), (29, fitC)])) (H :
    ∃ (k1 : Int), [AV.int IntKind.i64 xk] = [AV.int IntKind.i64 k1] ∧ ∃ (k2 : Int), ∃ (al3 : List Att), List.length al3 ≤ 1000000 ∧ (∀ (a4 : Att), a4 ∈ al3 → List.length (Att.value a4) ≤ 1000000) ∧ [AV.agg [AV.sl 3 (stripss 0 [] xa) none], AV.sl 3 (stripss 0 [] (List.map encR (rulesL k1))) none] = [AV.agg [AV.sl 3 (List.map encA al3) none], AV.sl 3 (List.map encR (rulesL k2)) none] ∧ ifP (!keepR (rulesL k2) al3 0) (AV.int IntKind.i64 12 = v) (ToEnd cfg 18 (bodyOf Tryd.f18) (RetIs Tryd.prog Tryd.f18 v) [Fm.code [1, 1, 1, 1, 1, 1, 0, 0, 1], Fm.block 0, Fm.code [1, 1]] XT.normal [(2, true, AV.int IntKind.i64 b), (3, true, AV.ptr 0 0), (4, true, AV.ptr 1 0)] [Blk.mem 27 [AV.int IntKind.i64 xk, AV.int IntKind.i64 xp, AV.str xt, AV.sl 3 xa none, AV.sl 5 xs none], Blk.mem 57 [AV.int IntKind.i64 d, AV.bool hid]])) :
    ToEnd cfg 18 (bodyOf Tryd.f18) (RetIs Tryd.prog Tryd.f18 v) ([.code [1, 1, 1, 1, 0, 0, 1], .block 0, .code [1, 1]]) .normal ([(2, true, .int .i64 b), (3, true, .ptr 0 0), (4, true, .ptr 1 0)]) ([.mem 27 [.int .i64 xk, .int .i64 xp, .str xt, .sl 3 xa none, .sl 5 xs none], .mem 57 [.int .i64 d, .bool hid]]) := by
  have e : unr cfg 18 (bodyOf Tryd.f18) (ctab [(18, checkC N), (25, keepC), (26, rulesC), (27, textC), (28, leafC), (29, fitC)]) ⟨[[1, 1, 0, 0, 1], [1, 1, 1, 1, 1, 1, 0, 0, 1], [1, 1, 1, 1, 1, 1, 1, 1, 0, 0, 1], [1, 1], [0, 1, 0, 1, 1, 1, 1]], [([0, 0, 0, 1, 1, 0, 0, 1, 0, 1, 1, 1, 1], 1, [.int .i64, .int .i64, .str, .sl 3, .sl 5])]⟩ (RetIs Tryd.prog Tryd.f18 v) 100000 ([.code [1, 1, 1, 1, 0, 0, 1], .block 0, .code [1, 1]]) .normal ([(2, true, .int .i64 b), (3, true, .ptr 0 0), (4, true, .ptr 1 0)]) ([.mem 27 [.int .i64 xk, .int .i64 xp, .str xt, .sl 3 xa none, .sl 5 xs none], .mem 57 [.int .i64 d, .bool hid]]) =
    (∃ (k1 : Int), [AV.int IntKind.i64 xk] = [AV.int IntKind.i64 k1] ∧ ∃ (k2 : Int), ∃ (al3 : List Att), List.length al3 ≤ 1000000 ∧ (∀ (a4 : Att), a4 ∈ al3 → List.length (Att.value a4) ≤ 1000000) ∧ [AV.agg [AV.sl 3 (stripss 0 [] xa) none], AV.sl 3 (stripss 0 [] (List.map encR (rulesL k1))) none] = [AV.agg [AV.sl 3 (List.map encA al3) none], AV.sl 3 (List.map encR (rulesL k2)) none] ∧ ifP (!keepR (rulesL k2) al3 0) (AV.int IntKind.i64 12 = v) (ToEnd cfg 18 (bodyOf Tryd.f18) (RetIs Tryd.prog Tryd.f18 v) [Fm.code [1, 1, 1, 1, 1, 1, 0, 0, 1], Fm.block 0, Fm.code [1, 1]] XT.normal [(2, true, AV.int IntKind.i64 b), (3, true, AV.ptr 0 0), (4, true, AV.ptr 1 0)] [Blk.mem 27 [AV.int IntKind.i64 xk, AV.int IntKind.i64 xp, AV.str xt, AV.sl 3 xa none, AV.sl 5 xs none], Blk.mem 57 [AV.int IntKind.i64 d, AV.bool hid]])) := by kernel_rfl
  exact unr_ok hT 100000 _ _ _ _ (e.mpr H)

theorem t18d {N : Nat} {v : AV} {xk xp : Int} {xt : List UInt8} {xa xs : List (List AV)} {d b : Int} {hid : Bool} (hT : TabOk cfg (ctab [(18, checkC N), (25, keepC), (26, rulesC), (27, textC), (28, leafC), (29, fitC)])) (H :
    ∃ (n1 : Nd), ∃ (hid2 : Bool), List.length (Nd.text n1) ≤ 1000000 ∧ [AV.agg [AV.int IntKind.i64 xk, AV.int IntKind.i64 xp, AV.str xt, AV.sl 3 (stripss 0 [] xa) none, AV.sl 5 (stripss 0 [] xs) none], AV.bool hid] = [AV.agg (encN n1), AV.bool hid2] ∧ ifP (!textB (Nd.kind n1) (Nd.text n1) hid2) (AV.int IntKind.i64 4 = v) (ifP (xk == 2) (ifP (b == 2) (AV.int IntKind.i64 4 = v) (ToEnd cfg 18 (bodyOf Tryd.f18) (RetIs Tryd.prog Tryd.f18 v) [Fm.code [1, 1, 1, 1, 1, 1, 1, 1, 0, 0, 1], Fm.block 0, Fm.code [1, 1]] XT.normal [(3, true, AV.ptr 0 0), (4, true, AV.ptr 1 0)] [Blk.mem 27 [AV.int IntKind.i64 xk, AV.int IntKind.i64 xp, AV.str xt, AV.sl 3 xa none, AV.sl 5 xs none], Blk.mem 57 [AV.int IntKind.i64 d, AV.bool hid]])) (ToEnd cfg 18 (bodyOf Tryd.f18) (RetIs Tryd.prog Tryd.f18 v) [Fm.code [1, 1, 1, 1, 1, 1, 1, 1, 0, 0, 1], Fm.block 0, Fm.code [1, 1]] XT.normal [(3, true, AV.ptr 0 0), (4, true, AV.ptr 1 0)] [Blk.mem 27 [AV.int IntKind.i64 xk, AV.int IntKind.i64 xp, AV.str xt, AV.sl 3 xa none, AV.sl 5 xs none], Blk.mem 57 [AV.int IntKind.i64 d, AV.bool hid]]))) :
    ToEnd cfg 18 (bodyOf Tryd.f18) (RetIs Tryd.prog Tryd.f18 v) ([.code [1, 1, 1, 1, 1, 1, 0, 0, 1], .block 0, .code [1, 1]]) .normal ([(2, true, .int .i64 b), (3, true, .ptr 0 0), (4, true, .ptr 1 0)]) ([.mem 27 [.int .i64 xk, .int .i64 xp, .str xt, .sl 3 xa none, .sl 5 xs none], .mem 57 [.int .i64 d, .bool hid]]) := by
  have e : unr cfg 18 (bodyOf Tryd.f18) (ctab [(18, checkC N), (25, keepC), (26, rulesC), (27, textC), (28, leafC), (29, fitC)]) ⟨[[1, 1, 0, 0, 1], [1, 1, 1, 1, 0, 0, 1], [1, 1, 1, 1, 1, 1, 1, 1, 0, 0, 1], [1, 1], [0, 1, 0, 1, 1, 1, 1]], [([0, 0, 0, 1, 1, 0, 0, 1, 0, 1, 1, 1, 1], 1, [.int .i64, .int .i64, .str, .sl 3, .sl 5])]⟩ (RetIs Tryd.prog Tryd.f18 v) 100000 ([.code [1, 1, 1, 1, 1, 1, 0, 0, 1], .block 0, .code [1, 1]]) .normal ([(2, true, .int .i64 b), (3, true, .ptr 0 0), (4, true, .ptr 1 0)]) ([.mem 27 [.int .i64 xk, .int .i64 xp, .str xt, .sl 3 xa none, .sl 5 xs none], .mem 57 [.int .i64 d, .bool hid]]) =
    (∃ (n1 : Nd), ∃ (hid2 : Bool), List.length (Nd.text n1) ≤ 1000000 ∧ [AV.agg [AV.int IntKind.i64 xk, AV.int IntKind.i64 xp, AV.str xt, AV.sl 3 (stripss 0 [] xa) none, AV.sl 5 (stripss 0 [] xs) none], AV.bool hid] = [AV.agg (encN n1), AV.bool hid2] ∧ ifP (!textB (Nd.kind n1) (Nd.text n1) hid2) (AV.int IntKind.i64 4 = v) (ifP (xk == 2) (ifP (b == 2) (AV.int IntKind.i64 4 = v) (ToEnd cfg 18 (bodyOf Tryd.f18) (RetIs Tryd.prog Tryd.f18 v) [Fm.code [1, 1, 1, 1, 1, 1, 1, 1, 0, 0, 1], Fm.block 0, Fm.code [1, 1]] XT.normal [(3, true, AV.ptr 0 0), (4, true, AV.ptr 1 0)] [Blk.mem 27 [AV.int IntKind.i64 xk, AV.int IntKind.i64 xp, AV.str xt, AV.sl 3 xa none, AV.sl 5 xs none], Blk.mem 57 [AV.int IntKind.i64 d, AV.bool hid]])) (ToEnd cfg 18 (bodyOf Tryd.f18) (RetIs Tryd.prog Tryd.f18 v) [Fm.code [1, 1, 1, 1, 1, 1, 1, 1, 0, 0, 1], Fm.block 0, Fm.code [1, 1]] XT.normal [(3, true, AV.ptr 0 0), (4, true, AV.ptr 1 0)] [Blk.mem 27 [AV.int IntKind.i64 xk, AV.int IntKind.i64 xp, AV.str xt, AV.sl 3 xa none, AV.sl 5 xs none], Blk.mem 57 [AV.int IntKind.i64 d, AV.bool hid]]))) := by kernel_rfl
  exact unr_ok hT 100000 _ _ _ _ (e.mpr H)

theorem t18e {N : Nat} {v : AV} {xk xp : Int} {xt : List UInt8} {xa xs : List (List AV)} {d : Int} {hid : Bool} (hT : TabOk cfg (ctab [(18, checkC N), (25, keepC), (26, rulesC), (27, textC), (28, leafC), (29, fitC)])) (H :
    ∃ (k1 : Int), [AV.int IntKind.i64 xk] = [AV.int IntKind.i64 k1] ∧ ifP (leafB k1) (ifP (decide ((↑(List.length xs) : Int) > 0)) (AV.int IntKind.i64 13 = v) (ifP (xk == 7) (ifP ((↑(List.length xs) : Int) != 2) (AV.int IntKind.i64 13 = v) (ifP (xk == 10) (ifP ((↑(List.length xs) : Int) == 0) (AV.int IntKind.i64 13 = v) (ToEnd cfg 18 (bodyOf Tryd.f18) (RetIs Tryd.prog Tryd.f18 v) [Fm.code [1, 1]] XT.normal [(3, true, AV.ptr 0 0), (4, true, AV.ptr 1 0)] [Blk.mem 27 [AV.int IntKind.i64 xk, AV.int IntKind.i64 xp, AV.str xt, AV.sl 3 xa none, AV.sl 5 xs none], Blk.mem 57 [AV.int IntKind.i64 d, AV.bool hid]])) (ToEnd cfg 18 (bodyOf Tryd.f18) (RetIs Tryd.prog Tryd.f18 v) [Fm.code [1, 1]] XT.normal [(3, true, AV.ptr 0 0), (4, true, AV.ptr 1 0)] [Blk.mem 27 [AV.int IntKind.i64 xk, AV.int IntKind.i64 xp, AV.str xt, AV.sl 3 xa none, AV.sl 5 xs none], Blk.mem 57 [AV.int IntKind.i64 d, AV.bool hid]]))) (ifP (xk == 10) (ifP ((↑(List.length xs) : Int) == 0) (AV.int IntKind.i64 13 = v) (ToEnd cfg 18 (bodyOf Tryd.f18) (RetIs Tryd.prog Tryd.f18 v) [Fm.code [1, 1]] XT.normal [(3, true, AV.ptr 0 0), (4, true, AV.ptr 1 0)] [Blk.mem 27 [AV.int IntKind.i64 xk, AV.int IntKind.i64 xp, AV.str xt, AV.sl 3 xa none, AV.sl 5 xs none], Blk.mem 57 [AV.int IntKind.i64 d, AV.bool hid]])) (ToEnd cfg 18 (bodyOf Tryd.f18) (RetIs Tryd.prog Tryd.f18 v) [Fm.code [1, 1]] XT.normal [(3, true, AV.ptr 0 0), (4, true, AV.ptr 1 0)] [Blk.mem 27 [AV.int IntKind.i64 xk, AV.int IntKind.i64 xp, AV.str xt, AV.sl 3 xa none, AV.sl 5 xs none], Blk.mem 57 [AV.int IntKind.i64 d, AV.bool hid]])))) (ifP (xk == 7) (ifP ((↑(List.length xs) : Int) != 2) (AV.int IntKind.i64 13 = v) (ifP (xk == 10) (ifP ((↑(List.length xs) : Int) == 0) (AV.int IntKind.i64 13 = v) (ToEnd cfg 18 (bodyOf Tryd.f18) (RetIs Tryd.prog Tryd.f18 v) [Fm.code [1, 1]] XT.normal [(3, true, AV.ptr 0 0), (4, true, AV.ptr 1 0)] [Blk.mem 27 [AV.int IntKind.i64 xk, AV.int IntKind.i64 xp, AV.str xt, AV.sl 3 xa none, AV.sl 5 xs none], Blk.mem 57 [AV.int IntKind.i64 d, AV.bool hid]])) (ToEnd cfg 18 (bodyOf Tryd.f18) (RetIs Tryd.prog Tryd.f18 v) [Fm.code [1, 1]] XT.normal [(3, true, AV.ptr 0 0), (4, true, AV.ptr 1 0)] [Blk.mem 27 [AV.int IntKind.i64 xk, AV.int IntKind.i64 xp, AV.str xt, AV.sl 3 xa none, AV.sl 5 xs none], Blk.mem 57 [AV.int IntKind.i64 d, AV.bool hid]]))) (ifP (xk == 10) (ifP ((↑(List.length xs) : Int) == 0) (AV.int IntKind.i64 13 = v) (ToEnd cfg 18 (bodyOf Tryd.f18) (RetIs Tryd.prog Tryd.f18 v) [Fm.code [1, 1]] XT.normal [(3, true, AV.ptr 0 0), (4, true, AV.ptr 1 0)] [Blk.mem 27 [AV.int IntKind.i64 xk, AV.int IntKind.i64 xp, AV.str xt, AV.sl 3 xa none, AV.sl 5 xs none], Blk.mem 57 [AV.int IntKind.i64 d, AV.bool hid]])) (ToEnd cfg 18 (bodyOf Tryd.f18) (RetIs Tryd.prog Tryd.f18 v) [Fm.code [1, 1]] XT.normal [(3, true, AV.ptr 0 0), (4, true, AV.ptr 1 0)] [Blk.mem 27 [AV.int IntKind.i64 xk, AV.int IntKind.i64 xp, AV.str xt, AV.sl 3 xa none, AV.sl 5 xs none], Blk.mem 57 [AV.int IntKind.i64 d, AV.bool hid]])))) :
    ToEnd cfg 18 (bodyOf Tryd.f18) (RetIs Tryd.prog Tryd.f18 v) ([.code [1, 1, 1, 1, 1, 1, 1, 1, 0, 0, 1], .block 0, .code [1, 1]]) .normal ([(3, true, .ptr 0 0), (4, true, .ptr 1 0)]) ([.mem 27 [.int .i64 xk, .int .i64 xp, .str xt, .sl 3 xa none, .sl 5 xs none], .mem 57 [.int .i64 d, .bool hid]]) := by
  have e : unr cfg 18 (bodyOf Tryd.f18) (ctab [(18, checkC N), (25, keepC), (26, rulesC), (27, textC), (28, leafC), (29, fitC)]) ⟨[[1, 1, 0, 0, 1], [1, 1, 1, 1, 0, 0, 1], [1, 1, 1, 1, 1, 1, 0, 0, 1], [1, 1], [0, 1, 0, 1, 1, 1, 1]], [([0, 0, 0, 1, 1, 0, 0, 1, 0, 1, 1, 1, 1], 1, [.int .i64, .int .i64, .str, .sl 3, .sl 5])]⟩ (RetIs Tryd.prog Tryd.f18 v) 100000 ([.code [1, 1, 1, 1, 1, 1, 1, 1, 0, 0, 1], .block 0, .code [1, 1]]) .normal ([(3, true, .ptr 0 0), (4, true, .ptr 1 0)]) ([.mem 27 [.int .i64 xk, .int .i64 xp, .str xt, .sl 3 xa none, .sl 5 xs none], .mem 57 [.int .i64 d, .bool hid]]) =
    (∃ (k1 : Int), [AV.int IntKind.i64 xk] = [AV.int IntKind.i64 k1] ∧ ifP (leafB k1) (ifP (decide ((↑(List.length xs) : Int) > 0)) (AV.int IntKind.i64 13 = v) (ifP (xk == 7) (ifP ((↑(List.length xs) : Int) != 2) (AV.int IntKind.i64 13 = v) (ifP (xk == 10) (ifP ((↑(List.length xs) : Int) == 0) (AV.int IntKind.i64 13 = v) (ToEnd cfg 18 (bodyOf Tryd.f18) (RetIs Tryd.prog Tryd.f18 v) [Fm.code [1, 1]] XT.normal [(3, true, AV.ptr 0 0), (4, true, AV.ptr 1 0)] [Blk.mem 27 [AV.int IntKind.i64 xk, AV.int IntKind.i64 xp, AV.str xt, AV.sl 3 xa none, AV.sl 5 xs none], Blk.mem 57 [AV.int IntKind.i64 d, AV.bool hid]])) (ToEnd cfg 18 (bodyOf Tryd.f18) (RetIs Tryd.prog Tryd.f18 v) [Fm.code [1, 1]] XT.normal [(3, true, AV.ptr 0 0), (4, true, AV.ptr 1 0)] [Blk.mem 27 [AV.int IntKind.i64 xk, AV.int IntKind.i64 xp, AV.str xt, AV.sl 3 xa none, AV.sl 5 xs none], Blk.mem 57 [AV.int IntKind.i64 d, AV.bool hid]]))) (ifP (xk == 10) (ifP ((↑(List.length xs) : Int) == 0) (AV.int IntKind.i64 13 = v) (ToEnd cfg 18 (bodyOf Tryd.f18) (RetIs Tryd.prog Tryd.f18 v) [Fm.code [1, 1]] XT.normal [(3, true, AV.ptr 0 0), (4, true, AV.ptr 1 0)] [Blk.mem 27 [AV.int IntKind.i64 xk, AV.int IntKind.i64 xp, AV.str xt, AV.sl 3 xa none, AV.sl 5 xs none], Blk.mem 57 [AV.int IntKind.i64 d, AV.bool hid]])) (ToEnd cfg 18 (bodyOf Tryd.f18) (RetIs Tryd.prog Tryd.f18 v) [Fm.code [1, 1]] XT.normal [(3, true, AV.ptr 0 0), (4, true, AV.ptr 1 0)] [Blk.mem 27 [AV.int IntKind.i64 xk, AV.int IntKind.i64 xp, AV.str xt, AV.sl 3 xa none, AV.sl 5 xs none], Blk.mem 57 [AV.int IntKind.i64 d, AV.bool hid]])))) (ifP (xk == 7) (ifP ((↑(List.length xs) : Int) != 2) (AV.int IntKind.i64 13 = v) (ifP (xk == 10) (ifP ((↑(List.length xs) : Int) == 0) (AV.int IntKind.i64 13 = v) (ToEnd cfg 18 (bodyOf Tryd.f18) (RetIs Tryd.prog Tryd.f18 v) [Fm.code [1, 1]] XT.normal [(3, true, AV.ptr 0 0), (4, true, AV.ptr 1 0)] [Blk.mem 27 [AV.int IntKind.i64 xk, AV.int IntKind.i64 xp, AV.str xt, AV.sl 3 xa none, AV.sl 5 xs none], Blk.mem 57 [AV.int IntKind.i64 d, AV.bool hid]])) (ToEnd cfg 18 (bodyOf Tryd.f18) (RetIs Tryd.prog Tryd.f18 v) [Fm.code [1, 1]] XT.normal [(3, true, AV.ptr 0 0), (4, true, AV.ptr 1 0)] [Blk.mem 27 [AV.int IntKind.i64 xk, AV.int IntKind.i64 xp, AV.str xt, AV.sl 3 xa none, AV.sl 5 xs none], Blk.mem 57 [AV.int IntKind.i64 d, AV.bool hid]]))) (ifP (xk == 10) (ifP ((↑(List.length xs) : Int) == 0) (AV.int IntKind.i64 13 = v) (ToEnd cfg 18 (bodyOf Tryd.f18) (RetIs Tryd.prog Tryd.f18 v) [Fm.code [1, 1]] XT.normal [(3, true, AV.ptr 0 0), (4, true, AV.ptr 1 0)] [Blk.mem 27 [AV.int IntKind.i64 xk, AV.int IntKind.i64 xp, AV.str xt, AV.sl 3 xa none, AV.sl 5 xs none], Blk.mem 57 [AV.int IntKind.i64 d, AV.bool hid]])) (ToEnd cfg 18 (bodyOf Tryd.f18) (RetIs Tryd.prog Tryd.f18 v) [Fm.code [1, 1]] XT.normal [(3, true, AV.ptr 0 0), (4, true, AV.ptr 1 0)] [Blk.mem 27 [AV.int IntKind.i64 xk, AV.int IntKind.i64 xp, AV.str xt, AV.sl 3 xa none, AV.sl 5 xs none], Blk.mem 57 [AV.int IntKind.i64 d, AV.bool hid]])))) := by kernel_rfl
  exact unr_ok hT 100000 _ _ _ _ (e.mpr H)

theorem t18f {N : Nat} {v : AV} {xk xp : Int} {xt : List UInt8} {xa xs : List (List AV)} {d : Int} {hid : Bool} (hT : TabOk cfg (ctab [(18, checkC N), (25, keepC), (26, rulesC), (27, textC), (28, leafC), (29, fitC)])) (H :
    ifP hid (ToEnd cfg 18 (bodyOf Tryd.f18) (RetIs Tryd.prog Tryd.f18 v) [Fm.code [0, 1, 0, 1, 1, 1, 1], Fm.block 1, Fm.code [1, 1, 1, 1, 1]] XT.normal [(3, true, AV.ptr 0 0), (7, true, AV.ptr 2 0), (8, true, AV.int IntKind.i64 0), (97, true, AV.sl 5 xs none), (98, true, AV.int IntKind.i64 (↑(List.length xs) : Int)), (99, true, AV.int IntKind.i64 0)] [Blk.mem 27 [AV.int IntKind.i64 xk, AV.int IntKind.i64 xp, AV.str xt, AV.sl 3 xa none, AV.sl 5 xs none], Blk.mem 57 [AV.int IntKind.i64 d, AV.bool hid], Blk.mem 57 [AV.int IntKind.i64 (IntKind.wrap IntKind.i64 (d + 1)), AV.bool true]]) (ToEnd cfg 18 (bodyOf Tryd.f18) (RetIs Tryd.prog Tryd.f18 v) [Fm.code [0, 1, 0, 1, 1, 1, 1], Fm.block 1, Fm.code [1, 1, 1, 1, 1]] XT.normal [(3, true, AV.ptr 0 0), (7, true, AV.ptr 2 0), (8, true, AV.int IntKind.i64 0), (97, true, AV.sl 5 xs none), (98, true, AV.int IntKind.i64 (↑(List.length xs) : Int)), (99, true, AV.int IntKind.i64 0)] [Blk.mem 27 [AV.int IntKind.i64 xk, AV.int IntKind.i64 xp, AV.str xt, AV.sl 3 xa none, AV.sl 5 xs none], Blk.mem 57 [AV.int IntKind.i64 d, AV.bool hid], Blk.mem 57 [AV.int IntKind.i64 (IntKind.wrap IntKind.i64 (d + 1)), AV.bool (xk == 14)]])) :
    ToEnd cfg 18 (bodyOf Tryd.f18) (RetIs Tryd.prog Tryd.f18 v) ([.code [1, 1]]) .normal ([(3, true, .ptr 0 0), (4, true, .ptr 1 0)]) ([.mem 27 [.int .i64 xk, .int .i64 xp, .str xt, .sl 3 xa none, .sl 5 xs none], .mem 57 [.int .i64 d, .bool hid]]) := by
  have e : unr cfg 18 (bodyOf Tryd.f18) (ctab [(18, checkC N), (25, keepC), (26, rulesC), (27, textC), (28, leafC), (29, fitC)]) ⟨[[0, 1, 0, 1, 1, 1, 1]], [([0, 0, 0, 1, 1, 0, 0, 1, 0, 1, 1, 1, 1], 1, [.int .i64, .int .i64, .str, .sl 3, .sl 5])]⟩ (RetIs Tryd.prog Tryd.f18 v) 100000 ([.code [1, 1]]) .normal ([(3, true, .ptr 0 0), (4, true, .ptr 1 0)]) ([.mem 27 [.int .i64 xk, .int .i64 xp, .str xt, .sl 3 xa none, .sl 5 xs none], .mem 57 [.int .i64 d, .bool hid]]) =
    (ifP hid (ToEnd cfg 18 (bodyOf Tryd.f18) (RetIs Tryd.prog Tryd.f18 v) [Fm.code [0, 1, 0, 1, 1, 1, 1], Fm.block 1, Fm.code [1, 1, 1, 1, 1]] XT.normal [(3, true, AV.ptr 0 0), (7, true, AV.ptr 2 0), (8, true, AV.int IntKind.i64 0), (97, true, AV.sl 5 xs none), (98, true, AV.int IntKind.i64 (↑(List.length xs) : Int)), (99, true, AV.int IntKind.i64 0)] [Blk.mem 27 [AV.int IntKind.i64 xk, AV.int IntKind.i64 xp, AV.str xt, AV.sl 3 xa none, AV.sl 5 xs none], Blk.mem 57 [AV.int IntKind.i64 d, AV.bool hid], Blk.mem 57 [AV.int IntKind.i64 (IntKind.wrap IntKind.i64 (d + 1)), AV.bool true]]) (ToEnd cfg 18 (bodyOf Tryd.f18) (RetIs Tryd.prog Tryd.f18 v) [Fm.code [0, 1, 0, 1, 1, 1, 1], Fm.block 1, Fm.code [1, 1, 1, 1, 1]] XT.normal [(3, true, AV.ptr 0 0), (7, true, AV.ptr 2 0), (8, true, AV.int IntKind.i64 0), (97, true, AV.sl 5 xs none), (98, true, AV.int IntKind.i64 (↑(List.length xs) : Int)), (99, true, AV.int IntKind.i64 0)] [Blk.mem 27 [AV.int IntKind.i64 xk, AV.int IntKind.i64 xp, AV.str xt, AV.sl 3 xa none, AV.sl 5 xs none], Blk.mem 57 [AV.int IntKind.i64 d, AV.bool hid], Blk.mem 57 [AV.int IntKind.i64 (IntKind.wrap IntKind.i64 (d + 1)), AV.bool (xk == 14)]])) := by kernel_rfl
  exact unr_ok hT 100000 _ _ _ _ (e.mpr H)

theorem t7 {N : Nat} {v : AV} {xk xp : Int} {xt : List UInt8} {xa xs : List (List AV)} (hT : TabOk cfg (ctab [(18, checkC N)])) (H :
    ifP (xk != 1) (AV.int IntKind.i64 13 = v) (∃ (n1 : Nd), ∃ (d2 : Int), ∃ (b3 : Int), ∃ (hid4 : Bool), Nd.size n1 < N ∧ Nd.tfit n1 ∧ 0 ≤ d2 ∧ d2 + (↑N : Int) ≤ 1000000 ∧ [AV.agg [AV.int IntKind.i64 xk, AV.int IntKind.i64 xp, AV.str xt, AV.sl 3 (stripss 0 [] xa) none, AV.sl 5 (stripss 0 [] xs) none], AV.agg [AV.int IntKind.i64 0, AV.bool false], AV.int IntKind.i64 0] = [AV.agg (encN n1), AV.agg [AV.int IntKind.i64 d2, AV.bool hid4], AV.int IntKind.i64 b3] ∧ AV.int IntKind.i64 (Nd.chk n1 d2 hid4 b3) = v)) :
    ToEnd cfg 7 (bodyOf Tryd.f7) (RetIs Tryd.prog Tryd.f7 v) ([.code []]) .normal ([(0, true, .agg [.int .i64 xk, .int .i64 xp, .str xt, .sl 3 xa none, .sl 5 xs none])]) ([]) := by
  have e : unr cfg 7 (bodyOf Tryd.f7) (ctab [(18, checkC N)]) ⟨[], []⟩ (RetIs Tryd.prog Tryd.f7 v) 100000 ([.code []]) .normal ([(0, true, .agg [.int .i64 xk, .int .i64 xp, .str xt, .sl 3 xa none, .sl 5 xs none])]) ([]) =
    (ifP (xk != 1) (AV.int IntKind.i64 13 = v) (∃ (n1 : Nd), ∃ (d2 : Int), ∃ (b3 : Int), ∃ (hid4 : Bool), Nd.size n1 < N ∧ Nd.tfit n1 ∧ 0 ≤ d2 ∧ d2 + (↑N : Int) ≤ 1000000 ∧ [AV.agg [AV.int IntKind.i64 xk, AV.int IntKind.i64 xp, AV.str xt, AV.sl 3 (stripss 0 [] xa) none, AV.sl 5 (stripss 0 [] xs) none], AV.agg [AV.int IntKind.i64 0, AV.bool false], AV.int IntKind.i64 0] = [AV.agg (encN n1), AV.agg [AV.int IntKind.i64 d2, AV.bool hid4], AV.int IntKind.i64 b3] ∧ AV.int IntKind.i64 (Nd.chk n1 d2 hid4 b3) = v)) := by kernel_rfl
  exact unr_ok hT 100000 _ _ _ _ (e.mpr H)

theorem t18g {N : Nat} {v : AV} {xk xp : Int} {xt : List UInt8} {xa xs : List (List AV)} {d : Int} {hid : Bool} {d2 c i z : Int} {hid2 : Bool} (hT : TabOk cfg (ctab [(18, checkC N), (25, keepC), (26, rulesC), (27, textC), (28, leafC), (29, fitC)])) (H :
    ifP (decide (i < z)) (gAnd (inR i (List.length xs) && true && true) (∃ (z1 : Int), ∃ (z2 : Int), ∃ (s3 : List UInt8), ∃ (es4 : List (List AV)), ∃ (es5 : List (List AV)), getE xs i = [AV.int IntKind.i64 z1, AV.int IntKind.i64 z2, AV.str s3, AV.sl 3 es4 none, AV.sl 5 es5 none] ∧ ∃ (p6 : Int), ∃ (k7 : Int), ∃ (i8 : Int), ∃ (n9 : Int), 0 ≤ i8 ∧ i8 < n9 ∧ n9 ≤ 9223372036854775807 ∧ [AV.int IntKind.i64 xk, AV.int IntKind.i64 z1, AV.int IntKind.i64 i, AV.int IntKind.i64 (↑(List.length xs) : Int)] = [AV.int IntKind.i64 p6, AV.int IntKind.i64 k7, AV.int IntKind.i64 i8, AV.int IntKind.i64 n9] ∧ ifP (!fitB p6 k7 i8 n9) (AV.int IntKind.i64 13 = v) (∃ (n10 : Nd), ∃ (d11 : Int), ∃ (b12 : Int), ∃ (hid13 : Bool), Nd.size n10 < N ∧ Nd.tfit n10 ∧ 0 ≤ d11 ∧ d11 + (↑N : Int) ≤ 1000000 ∧ [AV.agg [AV.int IntKind.i64 z1, AV.int IntKind.i64 z2, AV.str s3, AV.sl 3 (stripss 0 [] es4) none, AV.sl 5 (stripss 0 [] es5) none], AV.agg [AV.int IntKind.i64 d2, AV.bool hid2], AV.int IntKind.i64 c] = [AV.agg (encN n10), AV.agg [AV.int IntKind.i64 d11, AV.bool hid13], AV.int IntKind.i64 b12] ∧ ifP (Nd.chk n10 d11 hid13 b12 != 0) (AV.int IntKind.i64 (Nd.chk n10 d11 hid13 b12) = v) (gAnd (lowVss 3 xs && true && true && (lowVss 3 xa && true && (lowVss 3 xs && true && true) && true)) (ToEnd cfg 18 (bodyOf Tryd.f18) (RetIs Tryd.prog Tryd.f18 v) [Fm.code [0, 1, 0, 1, 1, 1, 1], Fm.block 1, Fm.code [1, 1, 1, 1, 1]] XT.normal [(3, true, AV.ptr 0 0), (7, true, AV.ptr 2 0), (8, true, AV.int IntKind.i64 z1), (97, true, AV.sl 5 xs none), (98, true, AV.int IntKind.i64 z), (99, true, AV.int IntKind.i64 (IntKind.wrap IntKind.i64 (i + 1)))] [Blk.mem 27 [AV.int IntKind.i64 xk, AV.int IntKind.i64 xp, AV.str xt, AV.sl 3 xa none, AV.sl 5 xs none], Blk.mem 57 [AV.int IntKind.i64 d, AV.bool hid], Blk.mem 57 [AV.int IntKind.i64 d2, AV.bool hid2]]))))) (AV.int IntKind.i64 0 = v)) :
    ToEnd cfg 18 (bodyOf Tryd.f18) (RetIs Tryd.prog Tryd.f18 v) ([.code [0, 1, 0, 1, 1, 1, 1], .block 1, .code [1, 1, 1, 1, 1]]) .normal ([(3, true, .ptr 0 0), (7, true, .ptr 2 0), (8, true, .int .i64 c), (97, true, .sl 5 xs none), (98, true, .int .i64 z), (99, true, .int .i64 i)]) ([.mem 27 [.int .i64 xk, .int .i64 xp, .str xt, .sl 3 xa none, .sl 5 xs none], .mem 57 [.int .i64 d, .bool hid], .mem 57 [.int .i64 d2, .bool hid2]]) := by
  have e : unr cfg 18 (bodyOf Tryd.f18) (ctab [(18, checkC N), (25, keepC), (26, rulesC), (27, textC), (28, leafC), (29, fitC)]) ⟨[[0, 1, 0, 1, 1, 1, 1]], [([0, 0, 0, 1, 1, 0, 0, 1, 0, 1, 1, 1, 1], 1, [.int .i64, .int .i64, .str, .sl 3, .sl 5])]⟩ (RetIs Tryd.prog Tryd.f18 v) 100000 ([.code [0, 0, 1, 0, 1, 1, 1, 1], .loop [0, 1, 0, 1, 1, 1, 1] 3, .block 1, .code [1, 1, 1, 1, 1]]) .normal ([(3, true, .ptr 0 0), (7, true, .ptr 2 0), (8, true, .int .i64 c), (97, true, .sl 5 xs none), (98, true, .int .i64 z), (99, true, .int .i64 i)]) ([.mem 27 [.int .i64 xk, .int .i64 xp, .str xt, .sl 3 xa none, .sl 5 xs none], .mem 57 [.int .i64 d, .bool hid], .mem 57 [.int .i64 d2, .bool hid2]]) =
    (ifP (decide (i < z)) (gAnd (inR i (List.length xs) && true && true) (∃ (z1 : Int), ∃ (z2 : Int), ∃ (s3 : List UInt8), ∃ (es4 : List (List AV)), ∃ (es5 : List (List AV)), getE xs i = [AV.int IntKind.i64 z1, AV.int IntKind.i64 z2, AV.str s3, AV.sl 3 es4 none, AV.sl 5 es5 none] ∧ ∃ (p6 : Int), ∃ (k7 : Int), ∃ (i8 : Int), ∃ (n9 : Int), 0 ≤ i8 ∧ i8 < n9 ∧ n9 ≤ 9223372036854775807 ∧ [AV.int IntKind.i64 xk, AV.int IntKind.i64 z1, AV.int IntKind.i64 i, AV.int IntKind.i64 (↑(List.length xs) : Int)] = [AV.int IntKind.i64 p6, AV.int IntKind.i64 k7, AV.int IntKind.i64 i8, AV.int IntKind.i64 n9] ∧ ifP (!fitB p6 k7 i8 n9) (AV.int IntKind.i64 13 = v) (∃ (n10 : Nd), ∃ (d11 : Int), ∃ (b12 : Int), ∃ (hid13 : Bool), Nd.size n10 < N ∧ Nd.tfit n10 ∧ 0 ≤ d11 ∧ d11 + (↑N : Int) ≤ 1000000 ∧ [AV.agg [AV.int IntKind.i64 z1, AV.int IntKind.i64 z2, AV.str s3, AV.sl 3 (stripss 0 [] es4) none, AV.sl 5 (stripss 0 [] es5) none], AV.agg [AV.int IntKind.i64 d2, AV.bool hid2], AV.int IntKind.i64 c] = [AV.agg (encN n10), AV.agg [AV.int IntKind.i64 d11, AV.bool hid13], AV.int IntKind.i64 b12] ∧ ifP (Nd.chk n10 d11 hid13 b12 != 0) (AV.int IntKind.i64 (Nd.chk n10 d11 hid13 b12) = v) (gAnd (lowVss 3 xs && true && true && (lowVss 3 xa && true && (lowVss 3 xs && true && true) && true)) (ToEnd cfg 18 (bodyOf Tryd.f18) (RetIs Tryd.prog Tryd.f18 v) [Fm.code [0, 1, 0, 1, 1, 1, 1], Fm.block 1, Fm.code [1, 1, 1, 1, 1]] XT.normal [(3, true, AV.ptr 0 0), (7, true, AV.ptr 2 0), (8, true, AV.int IntKind.i64 z1), (97, true, AV.sl 5 xs none), (98, true, AV.int IntKind.i64 z), (99, true, AV.int IntKind.i64 (IntKind.wrap IntKind.i64 (i + 1)))] [Blk.mem 27 [AV.int IntKind.i64 xk, AV.int IntKind.i64 xp, AV.str xt, AV.sl 3 xa none, AV.sl 5 xs none], Blk.mem 57 [AV.int IntKind.i64 d, AV.bool hid], Blk.mem 57 [AV.int IntKind.i64 d2, AV.bool hid2]]))))) (AV.int IntKind.i64 0 = v)) := by kernel_rfl
  exact ends_round hT 100000 (by kernel_rfl) (e.mpr H)

end Go.Proofs.YtafflebdjmnihaaDoor
end

section
namespace Go.Proofs.YtafflebdjmnihaaDoor
open Go.Ai Go
set_option linter.unusedSimpArgs false
set_option linter.unusedVariables false
set_option maxRecDepth 100000

theorem pf18 : pureFn cfg 18 Tryd.f18 := ⟨by kernel_rfl, by kernel_rfl, by kernel_rfl, by kernel_rfl, by kernel_rfl, by kernel_rfl⟩
theorem pf7 : pureFn cfg 7 Tryd.f7 := ⟨by kernel_rfl, by kernel_rfl, by kernel_rfl, by kernel_rfl, by kernel_rfl, by kernel_rfl⟩
theorem len27 (l : List Nd) : (encNs l).length = l.length := by rw [encNs_map]; exact List.length_map _
theorem chk_eq (n : Nd) (d : Int) (hid : Bool) (b : Int) : n.chk d hid b = bif formE n.kind n.text n.attrs n.kids.length d hid b == 0 then chks n.kind (n.kids.length : Nat) n.kids 0 (d + 1) (hid || n.kind == 14) 0 else formE n.kind n.text n.attrs n.kids.length d hid b := by
  obtain ⟨k, p, t, al, ks⟩ := n
  rw [Nd.chk]; rfl
theorem tfit_eq (n : Nd) : n.tfit = (n.text.length ≤ tlim ∧ n.attrs.length ≤ tlim ∧ (∀ a ∈ n.attrs, a.value.length ≤ tlim) ∧ n.kids.length ≤ tlim ∧ tfits n.kids) := by
  obtain ⟨k, p, t, al, ks⟩ := n
  rw [Nd.tfit]; rfl
theorem stripRs (n : Nat) (h : Hp) (k : Int) : stripss n h ((rulesL k).map encR) = (rulesL k).map encR := by
  refine stripss_pure _ _ _ ?_
  unfold rulesL
  cases k == 3 <;> cases k == 4 <;> cases k == 6 <;> cases k == 11 <;> rfl
def tabC (N : Nat) : List (Nat × Con) := [(27, checkC N), (33, keepC), (34, rulesC), (35, textC), (36, leafC), (37, fitC)]
theorem tab18 {N : Nat} (h : COk cfg 18 (checkC N)) : TabOk cfg (ctab [(18, checkC N), (25, keepC), (26, rulesC), (27, textC), (28, leafC), (29, fitC)]) :=
  ctab_ok (ctab_cons h (ctab_cons c25 (ctab_cons c26 (ctab_cons c27 (ctab_cons c28 (ctab_cons c29 ctab_nil))))))

theorem loop18 {N : Nat} (hT : TabOk cfg (ctab [(18, checkC N), (25, keepC), (26, rulesC), (27, textC), (28, leafC), (29, fitC)])) (xk xp d d2 v : Int) (xt : List UInt8) (al : List Att) (hid hid2 : Bool) (hd0 : 0 ≤ d2) (hd1 : d2 + N ≤ 1000000) : ∀ (r pre : List Nd) (c : Int), (pre ++ r).length ≤ tlim → tfits r → sizes r < N → v = chks xk ((pre ++ r).length : Nat) r (pre.length : Nat) d2 hid2 c →
    ToEnd cfg 18 (bodyOf Tryd.f18) (RetIs Tryd.prog Tryd.f18 (.int .i64 v)) [.code [0, 1, 0, 1, 1, 1, 1], .block 1, .code [1, 1, 1, 1, 1]] .normal
      [(3, true, .ptr 0 0), (7, true, .ptr 2 0), (8, true, .int .i64 c), (97, true, .sl 5 (encNs (pre ++ r)) none), (98, true, .int .i64 ((pre ++ r).length : Nat)), (99, true, .int .i64 (pre.length : Nat))]
      [.mem 27 [.int .i64 xk, .int .i64 xp, .str xt, .sl 3 (al.map encA) none, .sl 5 (encNs (pre ++ r)) none], .mem 57 [.int .i64 d, .bool hid], .mem 57 [.int .i64 d2, .bool hid2]] := by
  intro r
  induction r with
  | nil =>
    intro pre c hl hf hs hv
    refine t18g hT (ifP_intro (fun hc => ?_) fun _ => ?_)
    · simp at hc
    · rw [hv]; rfl
  | cons x r ih =>
    intro pre c hl hf hs hv
    obtain ⟨hf7001, hf7002⟩ := hf
    have hl' := hl
    simp only [List.length_append, List.length_cons] at hl'
    unfold tlim at hl'
    have hlen : pre.length < lim := by unfold lim; omega
    have hz : sizes (x :: r) = x.size + sizes r := rfl
    have hin : inR (pre.length : Int) (encNs (pre ++ x :: r)).length = true := inR_of (by omega) (by rw [len27]; simp; omega)
    have hlow : (lowVss 3 (encNs (pre ++ x :: r)) && true && true && (lowVss 3 (al.map encA) && true && (lowVss 3 (encNs (pre ++ x :: r)) && true && true) && true)) = true := by rw [low_encNs, low_encAs]; rfl
    rw [chks] at hv
    refine t18g hT (ifP_intro (fun _ => ?_) fun hc => ?_)
    · refine gAnd_intro (by rw [hin]; rfl) ⟨x.kind, x.pl, x.text, x.attrs.map encA, encNs x.kids, (getE_encNs _ _ _).trans (encN_eq x), xk, x.kind, (pre.length : Nat), ((encNs (pre ++ x :: r)).length : Nat), by omega, ?_, ?_, rfl, ?_⟩
      · rw [len27]; simp; omega
      · rw [len27]; simp; omega
      rw [len27]
      refine ifP_intro (fun a => ?_) fun a => ?_
      · rw [hv, a]; rfl
      · rw [a, cond_false] at hv
        refine ⟨x, d2, c, hid2, by omega, hf7001, hd0, hd1, ?_, ifP_intro (fun b => ?_) fun b => ?_⟩
        · rw [stripAs, stripNs, ← encN_eq]
        · have e : (x.chk d2 hid2 c == 0) = false := by simpa using b
          rw [hv, e]; rfl
        · have e : (x.chk d2 hid2 c == 0) = true := by simpa using b
          rw [e, cond_true] at hv
          refine gAnd_intro hlow ?_
          rw [wrap_succ hlen]
          have := ih (pre ++ [x]) x.kind (by simpa using hl) hf7002 (by omega) (by rw [hv]; simp)
          simpa using this
    · simp at hc; omega

theorem c18 : ∀ N, COk cfg 18 (checkC N)
  | 0 => by
    refine cok_pure pf18 fun vs h K ht => ?_
    obtain ⟨n, d, b, hid, hs, _⟩ := ht
    omega
  | N + 1 => by
    have hT := tab18 (c18 N)
    refine cok_pure pf18 fun vs h K ht => ?_
    obtain ⟨n, d, b, hid, hs, hf, hd0, hd1, rfl, hk⟩ := ht
    refine ⟨_, hk, ?_⟩
    have hsz := n.size_eq
    rw [tfit_eq] at hf
    obtain ⟨f1, f2, f3, f4, f5⟩ := hf
    have ftx : n.text.length ≤ tlim := f1
    rw [chk_eq, encN_eq]
    have heq : formE n.kind n.text n.attrs n.kids.length d hid b = formE n.kind n.text n.attrs n.kids.length d hid b := rfl
    conv at heq => rhs; unfold formE
    generalize formE n.kind n.text n.attrs n.kids.length d hid b = e at heq ⊢
    generalize hX : chks n.kind (n.kids.length : Nat) n.kids 0 (d + 1) (hid || n.kind == 14) 0 = X
    have bad : ∀ z : Int, e = z → (z == 0) = false → AV.int .i64 z = AV.int .i64 (bif e == 0 then X else e) := by
      intro z h h0; subst h; rw [h0]; rfl
    have s5 : e = 0 → ToEnd cfg 18 (bodyOf Tryd.f18) (RetIs Tryd.prog Tryd.f18 (.int .i64 (bif e == 0 then X else e))) [.code [1, 1]] .normal [(3, true, .ptr 0 0), (4, true, .ptr 1 0)] [.mem 27 [.int .i64 n.kind, .int .i64 n.pl, .str n.text, .sl 3 (n.attrs.map encA) none, .sl 5 (encNs n.kids) none], .mem 57 [.int .i64 d, .bool hid]] := by
      intro h0
      rw [h0]
      have hw : IntKind.wrap .i64 (d + 1) = d + 1 := wrap_in (by omega) (by omega)
      refine t18f hT (ifP_intro (fun g => ?_) fun g => ?_)
      · rw [hw, len27]
        rw [g, Bool.true_or] at hX
        exact loop18 hT n.kind n.pl d (d + 1) _ n.text n.attrs hid true (by omega) (by omega) n.kids [] 0 (by simpa using f4) f5 (by omega) (by simpa using hX.symm)
      · rw [hw, len27]
        rw [g, Bool.false_or] at hX
        exact loop18 hT n.kind n.pl d (d + 1) _ n.text n.attrs hid (n.kind == 14) (by omega) (by omega) n.kids [] 0 (by simpa using f4) f5 (by omega) (by simpa using hX.symm)
    have s4 : (e = bif (leafB n.kind && decide (0 < n.kids.length)) || (n.kind == 7 && !(n.kids.length == 2)) || (n.kind == 10 && n.kids.length == 0) then 13 else 0) → ToEnd cfg 18 (bodyOf Tryd.f18) (RetIs Tryd.prog Tryd.f18 (.int .i64 (bif e == 0 then X else e))) [.code [1, 1, 1, 1, 1, 1, 1, 1, 0, 0, 1], .block 0, .code [1, 1]] .normal [(3, true, .ptr 0 0), (4, true, .ptr 1 0)] [.mem 27 [.int .i64 n.kind, .int .i64 n.pl, .str n.text, .sl 3 (n.attrs.map encA) none, .sl 5 (encNs n.kids) none], .mem 57 [.int .i64 d, .bool hid]] := by
      intro h0
      have i1 : decide ((((encNs n.kids).length : Nat) : Int) > 0) = decide (0 < n.kids.length) := by rw [len27]; exact decide_eq_decide.2 (by omega)
      have i2 : ((((encNs n.kids).length : Nat) : Int) != 2) = !(n.kids.length == 2) := by rw [len27, Bool.eq_iff_iff]; simp; omega
      have i3 : ((((encNs n.kids).length : Nat) : Int) == 0) = (n.kids.length == 0) := by rw [len27, Bool.eq_iff_iff]; simp
      refine t18e hT ?_
      refine ⟨n.kind, rfl, ?_⟩
      rw [i1, i2, i3]
      generalize leafB n.kind = p1 at *
      generalize decide (0 < n.kids.length) = p2 at *
      generalize (n.kind == 7) = p3 at *
      generalize (!(n.kids.length == 2)) = p4 at *
      generalize (n.kind == 10) = p5 at *
      generalize (n.kids.length == 0) = p6 at *
      cases p1 <;> cases p2 <;> cases p3 <;> cases p4 <;> cases p5 <;> cases p6 <;> first | exact bad 13 h0 rfl | exact s5 h0
    have s3 : (e = bif !textB n.kind n.text hid || (n.kind == 2 && b == 2) then 4 else bif (leafB n.kind && decide (0 < n.kids.length)) || (n.kind == 7 && !(n.kids.length == 2)) || (n.kind == 10 && n.kids.length == 0) then 13 else 0) → ToEnd cfg 18 (bodyOf Tryd.f18) (RetIs Tryd.prog Tryd.f18 (.int .i64 (bif e == 0 then X else e))) [.code [1, 1, 1, 1, 1, 1, 0, 0, 1], .block 0, .code [1, 1]] .normal [(2, true, .int .i64 b), (3, true, .ptr 0 0), (4, true, .ptr 1 0)] [.mem 27 [.int .i64 n.kind, .int .i64 n.pl, .str n.text, .sl 3 (n.attrs.map encA) none, .sl 5 (encNs n.kids) none], .mem 57 [.int .i64 d, .bool hid]] := by
      intro h0
      refine t18d hT ⟨n, hid, ftx, by rw [stripAs, stripNs, ← encN_eq], ?_⟩
      generalize (!textB n.kind n.text hid) = p1 at *
      generalize (n.kind == 2) = p2 at *
      generalize (b == 2) = p3 at *
      cases p1 <;> cases p2 <;> cases p3 <;> first | exact bad 4 h0 rfl | exact s4 h0
    have s2 : (e = bif !keepR (rulesL n.kind) n.attrs 0 then 12 else bif !textB n.kind n.text hid || (n.kind == 2 && b == 2) then 4 else bif (leafB n.kind && decide (0 < n.kids.length)) || (n.kind == 7 && !(n.kids.length == 2)) || (n.kind == 10 && n.kids.length == 0) then 13 else 0) → ToEnd cfg 18 (bodyOf Tryd.f18) (RetIs Tryd.prog Tryd.f18 (.int .i64 (bif e == 0 then X else e))) [.code [1, 1, 1, 1, 0, 0, 1], .block 0, .code [1, 1]] .normal [(2, true, .int .i64 b), (3, true, .ptr 0 0), (4, true, .ptr 1 0)] [.mem 27 [.int .i64 n.kind, .int .i64 n.pl, .str n.text, .sl 3 (n.attrs.map encA) none, .sl 5 (encNs n.kids) none], .mem 57 [.int .i64 d, .bool hid]] := by
      intro h0
      refine t18c hT ⟨n.kind, rfl, n.kind, n.attrs, f2, f3, ?_, ?_⟩
      · rw [stripAs, stripRs]
      generalize (!keepR (rulesL n.kind) n.attrs 0) = p1 at *
      cases p1 <;> first | exact bad 12 h0 rfl | exact s3 h0
    have s1 : (e = bif !(n.kind == 2) && decide (16 < d) then 3 else bif !keepR (rulesL n.kind) n.attrs 0 then 12 else bif !textB n.kind n.text hid || (n.kind == 2 && b == 2) then 4 else bif (leafB n.kind && decide (0 < n.kids.length)) || (n.kind == 7 && !(n.kids.length == 2)) || (n.kind == 10 && n.kids.length == 0) then 13 else 0) → ToEnd cfg 18 (bodyOf Tryd.f18) (RetIs Tryd.prog Tryd.f18 (.int .i64 (bif e == 0 then X else e))) [.code [1, 1, 0, 0, 1], .block 0, .code [1, 1]] .normal [(2, true, .int .i64 b), (3, true, .ptr 0 0), (4, true, .ptr 1 0)] [.mem 27 [.int .i64 n.kind, .int .i64 n.pl, .str n.text, .sl 3 (n.attrs.map encA) none, .sl 5 (encNs n.kids) none], .mem 57 [.int .i64 d, .bool hid]] := by
      intro h0
      refine t18b hT (ifP_intro (fun g => ifP_intro (fun g' => ?_) fun g' => ?_) fun g => ?_)
      · refine bad 3 ?_ rfl
        have e1 : (!(n.kind == 2)) = true := g
        have e2 : decide (16 < d) = true := g'
        rw [h0, e1, e2]; rfl
      · refine s2 ?_
        have e2 : decide (16 < d) = false := g'
        rw [h0, e2, Bool.and_false]; rfl
      · refine s2 ?_
        have e1 : (!(n.kind == 2)) = false := g
        rw [h0, e1, Bool.false_and]; rfl
    refine t18a hT (ifP_intro (fun g => ifP_intro (fun g' => ?_) fun g' => ?_) fun g => ?_)
    · refine bad 13 ?_ rfl
      rw [heq, g, g']; rfl
    · refine s1 ?_
      rw [heq, g', Bool.and_false]; rfl
    · refine s1 ?_
      rw [heq, g, Bool.false_and]; rfl

theorem c7 (N : Nat) : COk cfg 7 (pageC N) := by
  refine cok_pure pf7 fun vs h K ht => ?_
  obtain ⟨n, hs, hf, hN, rfl, hk⟩ := ht
  refine ⟨_, hk, ?_⟩
  rw [encN_eq]
  unfold Nd.page
  refine t7 (ctab_ok (ctab_cons (c18 N) ctab_nil)) (ifP_intro (fun a => ?_) fun a => ⟨n, 0, 0, false, hs, hf, by decide, by omega, by rw [stripAs, stripNs, ← encN_eq], ?_⟩)
  · have e : (n.kind == 1) = false := by simpa using a
    rw [e]; rfl
  · have e : (n.kind == 1) = true := by simpa using a
    rw [e]; rfl
end Go.Proofs.YtafflebdjmnihaaDoor
end

section
namespace Go.Ai
open Go.RowKit
set_option linter.unusedVariables false
def zs (n : Nat) : List UInt8 := List.replicate n 0
def rb (s : List UInt8) : List (List AV) := s.map fun (b : UInt8) => [AV.int IntKind.u8 ((UInt8.toNat b : Nat) : Int)]
theorem rb_len (s : List UInt8) : (rb s).length = s.length := by simp [rb]
theorem rb_app (a b : List UInt8) : rb (a ++ b) = rb a ++ rb b := by simp [rb]
theorem pure_rb : ∀ s : List UInt8, pureV.pureVss (rb s) = true
  | [] => rfl
  | c :: r => by
    have : rb (c :: r) = [AV.int .u8 ((c.toNat : Nat) : Int)] :: rb r := rfl
    rw [this]; simp only [pureV.pureVss, pureV.pureVs, pureV, pure_rb r, Bool.and_true]
theorem stripss_rb (n : Nat) (h : Hp) (l : List UInt8) : stripss n h (rb l) = rb l := stripss_pure _ _ _ (pure_rb l)
theorem tag_ok {h : Hp} {n sz e id : Nat} (hh : h[id]? = some (.grow n sz e)) : tagOk h n sz e (some id) = true := by
  simp [tagOk, hh, Nat.beq_refl]
theorem bytesA_rb : ∀ s : List UInt8, bytesA (rb s) = some s
  | [] => rfl
  | c :: r => by
    have ih := bytesA_rb r
    have hc := c.toNat_lt
    have e : rb (c :: r) = [AV.int .u8 ((c.toNat : Nat) : Int)] :: rb r := rfl
    have b : byteA [AV.int .u8 ((c.toNat : Nat) : Int)] = some c := by
      simp only [byteA]
      rw [decide_eq_true (by omega), decide_eq_true (by omega)]
      simp
    rw [e, bytesA, ih, b]
def tx : List UInt8 := [116, 101, 120, 116]
def rmv : List UInt8 := [114, 101, 109, 111, 118, 101]
def cmt : List UInt8 := [99, 111, 109, 109, 101, 110, 116]
/-- A page's one node: a text; a remove; a comment. -/
def lf : Nat → Nat → Nd
  | 0, n => .mk 2 0 (zs n) [] []
  | 1, n => .mk 5 0 (zs n) [] []
  | _, n => .mk 6 0 [] [⟨tx, zs n, 0⟩] []
def pg (k n : Nat) : Nd := .mk 1 0 [] [] [lf k n]
def lookE : Nat → Nat → Int
  | 0, 0 => 4
  | _, _ => 0
def atT (s : List UInt8) : List UInt8 := 32 :: (tx ++ [61] ++ [34] ++ s ++ [34])
def lt : Nat → Nat → List UInt8
  | 0, n => zs n
  | 1, n => [60, 101, 115, 105, 58] ++ rmv ++ [62] ++ zs n ++ [60, 47, 101, 115, 105, 58] ++ rmv ++ [62]
  | _, n => [60, 101, 115, 105, 58] ++ cmt ++ atT (zs n) ++ [47, 62]
def ansE (k n : Nat) : Int := bif lookE k n == 0 then bif decide (65536 < (lt k n).length) then 3 else 0 else lookE k n
def ansS (k n : Nat) : List UInt8 := bif ansE k n == 0 then lt k n else []

def hasZC : Con := fun vs h K => ∃ (n : Nat) (c : UInt8) (r : List UInt8), n ≤ 1000000 ∧ c ≠ 0 ∧ r.length ≤ 100 ∧ vs = [.str (zs n), .str (c :: r)] ∧ K (.bool false) h
def tagZC : Con := fun vs h K => ∃ n : Nat, n ≤ 1000000 ∧ vs = [.str (zs n)] ∧ K (.bool false) h
def quoZC : Con := fun vs h K => ∃ n : Nat, n ≤ 1000000 ∧ vs = [.str (zs n)] ∧ K (.str ([34] ++ zs n ++ [34])) h
def valZC : Con := fun vs h K => ∃ n : Nat, n ≤ 1000000 ∧ vs = [.agg [.str tx, .str (zs n), .int .i64 0]] ∧ K (.bool true) h
def manyC : Con := fun vs h K => match vs with
  | [.sl _ [] none, .str _] => K (.int .i64 0) h
  | [.sl 1 [[.str a]] none, .str b] => a = b ∧ K (.int .i64 1) h
  | _ => False
def needsC : Con := fun vs h K => match vs with
  | [.int .i64 k] => bif k == 6 then K (.tup [.sl 1 [[.str tx]] none, .sl 1 [] none]) h else (bif k == 1 || (k == 2 || k == 5) then K (.tup [.sl 1 [] none, .sl 1 [] none]) h else False)
  | _ => False
def nameC : Con := fun vs h K => match vs with
  | [.int .i64 k] => bif k == 5 then K (.str rmv) h else (bif k == 6 then K (.str cmt) h else False)
  | _ => False
def attrsZC : Con := fun vs h K => match vs with
  | [.int .i64 k, .sl _ [] none] => bif k == 1 || (k == 2 || k == 5) then K (.bool true) h else False
  | [.int .i64 k, .sl 3 [[.str a, .str s, .int .i64 p]] none] => ∃ n : Nat, n ≤ 1000000 ∧ (k == 6) = true ∧ (a == tx) = true ∧ (p == 0) = true ∧ s = zs n ∧ K (.bool true) h
  | _ => False
def textZC : Con := fun vs h K => match vs with
  | [.int .i64 k, .str s, .bool false] => bif k == 2 then (∃ n : Nat, n ≤ 1000000 ∧ s = zs n ∧ K (.bool (!(s == []))) h) else bif k == 5 then (∃ n : Nat, n ≤ 1000000 ∧ s = zs n ∧ K (.bool true) h) else (bif k == 1 || k == 6 then s.isEmpty = true ∧ K (.bool true) h else False)
  | _ => False
def kindC : Con := fun vs h K => ∃ k : Int, vs = [.int .i64 k] ∧ (k = 2 ∨ k = 5 ∨ k = 6) ∧ K (.bool true) h
def lookZC : Con := fun vs h K => ∃ k n : Nat, k < 3 ∧ n ≤ 1000000 ∧ vs = [.agg (encN (lf k n)), .int .i64 1, .bool false, .bool false] ∧ K (.int .i64 (lookE k n)) h
def lookPC : Con := fun vs h K => ∃ k n : Nat, k < 3 ∧ n ≤ 1000000 ∧ vs = [.agg (encN (pg k n)), .int .i64 0, .bool false, .bool false] ∧ K (.int .i64 (lookE k n)) h
def checkZC : Con := fun vs h K => ∃ k n : Nat, k < 3 ∧ n ≤ 1000000 ∧ vs = [.agg (encN (pg k n))] ∧ K (.int .i64 (lookE k n)) h
def nodeZC : Con := fun vs h K => ∃ k n : Nat, k < 3 ∧ n ≤ 1000000 ∧ vs = [.agg (encN (lf k n))] ∧ K (.str (lt k n)) h
def nodePC : Con := fun vs h K => ∃ k n : Nat, k < 3 ∧ n ≤ 1000000 ∧ vs = [.agg (encN (pg k n))] ∧ K (.str (lt k n)) h
def tellZC : Con := fun vs h K => ∃ k n : Nat, k < 3 ∧ n ≤ 1000000 ∧ vs = [.agg (encN (pg k n))] ∧ K (.tup [.str (ansS k n), .int .i64 (ansE k n)]) h

/-! The program's. -/
def atsC : Con := fun vs h K => match vs with
  | [.sl _ [] none] => K (.str []) h
  | [.sl 3 [[.str a, .str s, .int .i64 p]] none] => ∃ n : Nat, n ≤ 1000000 ∧ (a == tx) = true ∧ (p == 0) = true ∧ s = zs n ∧ K (.str (atT s)) h
  | _ => False
def putF8 : AV := .fn (.func 8) [] [.ptr 2 0, .ptr 3 0]
/-- What is known of a builder that stands in block 2, its bytes in block 1. -/
def copyT : Con := fun vs h K => match h with
  | [.mem t0 c0, .grow n s1 e1, .mem t [p, .sl s2 es (some i)], .mem t3 c3, .mem t4 c4] => ∃ acc : List UInt8, (t0 = 27 ∧ s1 = 1 ∧ e1 = 5 ∧ t = 40 ∧ s2 = 1 ∧ i = 1 ∧ t3 = 41 ∧ c3 = [putF8] ∧ t4 = 27) ∧ (pureV.pureVs c0 = true ∧ pureV.pureVs c4 = true) ∧ (p = .nilp ∨ p = .ptr 2 0) ∧ es = rb acc ∧ vs = [.ptr 2 0] ∧
      K (.tup []) [.mem 27 c0, .grow n 1 5, .mem 40 [.ptr 2 0, .sl 1 (rb acc) (some 1)], .mem 41 [.fn (.func 8) [] [.ptr 2 0, .ptr 3 0]], .mem 27 c4]
  | [.mem t0 c0, .grow n s1 e1, .mem t [p, .sl s2 es (some i)], .mem t3 c3, .mem t4 c4, .grow g1 u1 w1, .grow g2 u2 w2, .mem t5 c5, .mem t6 c6] => ∃ acc : List UInt8, (t0 = 27 ∧ s1 = 1 ∧ e1 = 5 ∧ t = 40 ∧ s2 = 1 ∧ i = 1 ∧ t3 = 41 ∧ c3 = [putF8] ∧ t4 = 27 ∧ t5 = 27 ∧ t6 = 27 ∧ g1 = 0 ∧ u1 = 3 ∧ w1 = 29 ∧ g2 = 0 ∧ u2 = 5 ∧ w2 = 27) ∧ (pureV.pureVs c0 = true ∧ pureV.pureVs c4 = true ∧ pureV.pureVs c5 = true ∧ pureV.pureVs c6 = true) ∧ (p = .nilp ∨ p = .ptr 2 0) ∧ es = rb acc ∧ vs = [.ptr 2 0] ∧
      K (.tup []) [.mem 27 c0, .grow n 1 5, .mem 40 [.ptr 2 0, .sl 1 (rb acc) (some 1)], .mem 41 [.fn (.func 8) [] [.ptr 2 0, .ptr 3 0]], .mem 27 c4, .grow 0 3 29, .grow 0 5 27, .mem 27 c5, .mem 27 c6]
  | _ => False
def writeT : Con := fun vs h K => match h with
  | [.mem t0 c0, .grow n s1 e1, .mem t [p, .sl s2 es (some i)], .mem t3 c3, .mem t4 c4] => ∃ acc x : List UInt8, (t0 = 27 ∧ s1 = 1 ∧ e1 = 5 ∧ t = 40 ∧ s2 = 1 ∧ i = 1 ∧ t3 = 41 ∧ c3 = [putF8] ∧ t4 = 27) ∧ (pureV.pureVs c0 = true ∧ pureV.pureVs c4 = true) ∧ (p = .nilp ∨ p = .ptr 2 0) ∧ es = rb acc ∧ n = acc.length ∧ acc.length + x.length ≤ 1000000000 ∧ vs = [.ptr 2 0, .str x] ∧
      K (.tup [.int .i64 ((x.length : Nat) : Int), .nili]) [.mem 27 c0, .grow (acc ++ x).length 1 5, .mem 40 [.ptr 2 0, .sl 1 (rb (acc ++ x)) (some 1)], .mem 41 [.fn (.func 8) [] [.ptr 2 0, .ptr 3 0]], .mem 27 c4]
  | [.mem t0 c0, .grow n s1 e1, .mem t [p, .sl s2 es (some i)], .mem t3 c3, .mem t4 c4, .grow g1 u1 w1, .grow g2 u2 w2, .mem t5 c5, .mem t6 c6] => ∃ acc x : List UInt8, (t0 = 27 ∧ s1 = 1 ∧ e1 = 5 ∧ t = 40 ∧ s2 = 1 ∧ i = 1 ∧ t3 = 41 ∧ c3 = [putF8] ∧ t4 = 27 ∧ t5 = 27 ∧ t6 = 27 ∧ g1 = 0 ∧ u1 = 3 ∧ w1 = 29 ∧ g2 = 0 ∧ u2 = 5 ∧ w2 = 27) ∧ (pureV.pureVs c0 = true ∧ pureV.pureVs c4 = true ∧ pureV.pureVs c5 = true ∧ pureV.pureVs c6 = true) ∧ (p = .nilp ∨ p = .ptr 2 0) ∧ es = rb acc ∧ n = acc.length ∧ acc.length + x.length ≤ 1000000000 ∧ vs = [.ptr 2 0, .str x] ∧
      K (.tup [.int .i64 ((x.length : Nat) : Int), .nili]) [.mem 27 c0, .grow (acc ++ x).length 1 5, .mem 40 [.ptr 2 0, .sl 1 (rb (acc ++ x)) (some 1)], .mem 41 [.fn (.func 8) [] [.ptr 2 0, .ptr 3 0]], .mem 27 c4, .grow 0 3 29, .grow 0 5 27, .mem 27 c5, .mem 27 c6]
  | _ => False
def lenT : Con := fun vs h K => match h with
  | [.mem t0 c0, .grow n s1 e1, .mem t [p, .sl s2 es (some i)], .mem t3 c3] => ∃ acc : List UInt8, (t0 = 27 ∧ s1 = 1 ∧ e1 = 5 ∧ t = 40 ∧ s2 = 1 ∧ i = 1 ∧ t3 = 41 ∧ c3 = [putF8]) ∧ (pureV.pureVs c0 = true) ∧ (p = .ptr 2 0) ∧ es = rb acc ∧ vs = [.ptr 2 0] ∧
      K (.int .i64 ((acc.length : Nat) : Int)) [.mem 27 c0, .grow n 1 5, .mem 40 [p, .sl 1 (rb acc) (some 1)], .mem 41 [.fn (.func 8) [] [.ptr 2 0, .ptr 3 0]]]
  | _ => False
def strT : Con := fun vs h K => match h with
  | [.mem t0 c0, .grow n s1 e1, .mem t [p, .sl s2 es (some i)], .mem t3 c3] => ∃ acc : List UInt8, (t0 = 27 ∧ s1 = 1 ∧ e1 = 5 ∧ t = 40 ∧ s2 = 1 ∧ i = 1 ∧ t3 = 41 ∧ c3 = [putF8]) ∧ es = rb acc ∧ n = acc.length ∧ vs = [.ptr 2 0] ∧
      K (.str acc) [.mem 27 c0, .dead, .mem 40 [p, .sl 1 (rb acc) (some 1)], .mem 41 [.fn (.func 8) [] [.ptr 2 0, .ptr 3 0]]]
  | _ => False
def putZC : Con := fun vs h K => match h with
  | [.mem t0 c0, .grow n s1 e1, .mem t [p, .sl s2 es (some i)], .mem t3 c3, .mem t4 c4, .grow g1 u1 w1, .grow g2 u2 w2, .mem t5 c5] => ∃ (acc : List UInt8) (k m : Nat), (t0 = 27 ∧ s1 = 1 ∧ e1 = 5 ∧ t = 40 ∧ s2 = 1 ∧ i = 1 ∧ t3 = 41 ∧ c3 = [putF8] ∧ t4 = 27 ∧ t5 = 27 ∧ g1 = 0 ∧ u1 = 3 ∧ w1 = 29 ∧ g2 = 0 ∧ u2 = 5 ∧ w2 = 27) ∧ (pureV.pureVs c0 = true ∧ pureV.pureVs c4 = true ∧ pureV.pureVs c5 = true) ∧ (p = .ptr 2 0) ∧ es = rb acc ∧ n = acc.length ∧ acc.length ≤ 1000000 ∧ k < 3 ∧ m ≤ 1000000 ∧ vs = [.agg (encN (lf k m)), .ptr 2 0, .ptr 3 0] ∧
      K (.tup []) [.mem 27 c0, .grow (acc ++ lt k m).length 1 5, .mem 40 [.ptr 2 0, .sl 1 (rb (acc ++ lt k m)) (some 1)], .mem 41 [.fn (.func 8) [] [.ptr 2 0, .ptr 3 0]], .mem 27 c4, .grow 0 3 29, .grow 0 5 27, .mem 27 c5]
  | _ => False
def putPC : Con := fun vs h K => match h with
  | [.mem t0 c0, .grow n s1 e1, .mem t [p, .sl s2 es (some i)], .mem t3 c3] => ∃ (k m : Nat), (t0 = 27 ∧ s1 = 1 ∧ e1 = 5 ∧ t = 40 ∧ s2 = 1 ∧ i = 1 ∧ t3 = 41 ∧ c3 = [putF8]) ∧ (pureV.pureVs c0 = true) ∧ (p = .nilp) ∧ es.isEmpty = true ∧ n = 0 ∧ k < 3 ∧ m ≤ 1000000 ∧ vs = [.agg (encN (pg k m)), .ptr 2 0, .ptr 3 0] ∧
      K (.tup []) [.mem 27 c0, .grow (lt k m).length 1 5, .mem 40 [.ptr 2 0, .sl 1 (rb (lt k m)) (some 1)], .mem 41 [.fn (.func 8) [] [.ptr 2 0, .ptr 3 0]]]
  | _ => False
end Go.Ai
end
