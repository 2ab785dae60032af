/-
  Runs of the functions of a page's pieces, printed by a home tool; each is the kernel's word.
  Pieces of a page's text: what adds a piece, what finds what stands next: contracts.
-/
import Derived.Test.YtolmmodgneodbaaDoorCfg
import Derived.Test.YtolmmodgneodbaaDoorJEo
import Derived.Test.YtolmmodgneodbaaDoorJEa
section
namespace Go.Proofs.YtolmmodgneodbaaDoor
open Go.Ai Go Go.Ai.Ex
set_option maxRecDepth 100000
set_option linter.unusedVariables false
theorem t27g {K : AV → Hp → Prop} {s : List UInt8} {at' : Int} {L : List (List AV)} {hid : Int} {k fr : Int} (hT : TabOk cfg (ctab [])) (H :
    gAnd (cutOb (List.length s) (some fr) (some at')) (gAnd (tagOk [Blk.grow 0 6 32, Blk.mem 23 [AV.sl 6 [] (some 0)], Blk.mem 3 [AV.int IntKind.i64 0], Blk.mem 24 [AV.int IntKind.i64 0], Blk.grow (List.length L) 6 32, Blk.mem 45 [AV.str s, AV.int IntKind.i64 at', AV.sl 6 L (some 4), AV.int IntKind.i64 hid], Blk.grow 0 3 40, Blk.mem 32 [AV.int IntKind.i64 k, AV.str [], AV.sl 3 [] (some 6), AV.str (cutL s (some fr) (some at')), AV.int IntKind.i64 fr, AV.int IntKind.i64 at']] (List.length L) 6 32 (some 4) && true && true && true && decide ((List.length L + 1) * 80 ≤ 140737488355328) && true && true) (K (AV.tup []) [Blk.grow 0 6 32, Blk.mem 23 [AV.sl 6 [] (some 0)], Blk.mem 3 [AV.int IntKind.i64 0], Blk.mem 24 [AV.int IntKind.i64 0], Blk.grow (List.length L + 1) 6 32, Blk.mem 45 [AV.str s, AV.int IntKind.i64 at', AV.sl 6 (stripss 7 [Blk.grow 0 6 32, Blk.mem 23 [AV.sl 6 [] (some 0)], Blk.mem 3 [AV.int IntKind.i64 0], Blk.mem 24 [AV.int IntKind.i64 0], Blk.grow (List.length L + 1) 6 32, Blk.mem 45 [AV.str s, AV.int IntKind.i64 at', AV.sl 6 (L ++ [[AV.int IntKind.i64 k, AV.str [], AV.sl 3 [] (some 6), AV.str (cutL s (some fr) (some at')), AV.int IntKind.i64 fr, AV.int IntKind.i64 at']]) (some 4), AV.int IntKind.i64 hid], Blk.grow 0 3 40, Blk.mem 32 [AV.int IntKind.i64 k, AV.str [], AV.sl 3 [] (some 6), AV.str (cutL s (some fr) (some at')), AV.int IntKind.i64 fr, AV.int IntKind.i64 at']] (L ++ [[AV.int IntKind.i64 k, AV.str [], AV.sl 3 [] (some 6), AV.str (cutL s (some fr) (some at')), AV.int IntKind.i64 fr, AV.int IntKind.i64 at']])) (some 4), AV.int IntKind.i64 hid], Blk.grow 0 3 40]))) :
    ToEnd cfg 27 (bodyOf Tryd.f27) (RetIn Tryd.prog Tryd.f27 (7) K) ([.code []]) .normal ([(0, true, .ptr 5 0), (1, true, .agg [.int .i64 k, .str [], .sl 3 [] (some 6), .str [], .int .i64 0, .int .i64 0]), (2, true, .int .i64 fr)]) (hG s at' L hid) := by
  exact unr_ok hT 100000 _ _ _ _ (show unr cfg 27 (bodyOf Tryd.f27) (ctab []) ⟨[], []⟩ (RetIn Tryd.prog Tryd.f27 (7) K) 100000 ([.code []]) .normal ([(0, true, .ptr 5 0), (1, true, .agg [.int .i64 k, .str [], .sl 3 [] (some 6), .str [], .int .i64 0, .int .i64 0]), (2, true, .int .i64 fr)]) (hG s at' L hid) from unr_use H (by kernel_rfl))

theorem t27t {K : AV → Hp → Prop} {s : List UInt8} {at' : Int} {L : List (List AV)} {hid : Int} {k : Int} {nm : List UInt8} {es : List (List AV)} {fr : Int} (hT : TabOk cfg (ctab [])) (H :
    gAnd (cutOb (List.length s) (some fr) (some at')) (gAnd (tagOk [Blk.grow 0 6 32, Blk.mem 23 [AV.sl 6 [] (some 0)], Blk.mem 3 [AV.int IntKind.i64 0], Blk.mem 24 [AV.int IntKind.i64 0], Blk.grow (List.length L) 6 32, Blk.mem 45 [AV.str s, AV.int IntKind.i64 at', AV.sl 6 L (some 4), AV.int IntKind.i64 hid], Blk.grow (List.length es) 3 40, Blk.grow 0 3 40, Blk.mem 32 [AV.int IntKind.i64 k, AV.str nm, AV.sl 3 es (some 6), AV.str [], AV.int IntKind.i64 0, AV.int IntKind.i64 0], Blk.mem 32 [AV.int IntKind.i64 k, AV.str nm, AV.sl 3 es (some 6), AV.str (cutL s (some fr) (some at')), AV.int IntKind.i64 fr, AV.int IntKind.i64 at']] (List.length L) 6 32 (some 4) && true && true && true && decide ((List.length L + 1) * 80 ≤ 140737488355328) && true && true) (K (AV.tup []) [Blk.grow 0 6 32, Blk.mem 23 [AV.sl 6 [] (some 0)], Blk.mem 3 [AV.int IntKind.i64 0], Blk.mem 24 [AV.int IntKind.i64 0], Blk.grow (List.length L + 1) 6 32, Blk.mem 45 [AV.str s, AV.int IntKind.i64 at', AV.sl 6 (stripss 9 [Blk.grow 0 6 32, Blk.mem 23 [AV.sl 6 [] (some 0)], Blk.mem 3 [AV.int IntKind.i64 0], Blk.mem 24 [AV.int IntKind.i64 0], Blk.grow (List.length L + 1) 6 32, Blk.mem 45 [AV.str s, AV.int IntKind.i64 at', AV.sl 6 (L ++ [[AV.int IntKind.i64 k, AV.str nm, AV.sl 3 es (some 6), AV.str (cutL s (some fr) (some at')), AV.int IntKind.i64 fr, AV.int IntKind.i64 at']]) (some 4), AV.int IntKind.i64 hid], Blk.grow (List.length es) 3 40, Blk.grow 0 3 40, Blk.mem 32 [AV.int IntKind.i64 k, AV.str nm, AV.sl 3 es (some 6), AV.str [], AV.int IntKind.i64 0, AV.int IntKind.i64 0], Blk.mem 32 [AV.int IntKind.i64 k, AV.str nm, AV.sl 3 es (some 6), AV.str (cutL s (some fr) (some at')), AV.int IntKind.i64 fr, AV.int IntKind.i64 at']] (L ++ [[AV.int IntKind.i64 k, AV.str nm, AV.sl 3 es (some 6), AV.str (cutL s (some fr) (some at')), AV.int IntKind.i64 fr, AV.int IntKind.i64 at']])) (some 4), AV.int IntKind.i64 hid], Blk.grow (List.length es) 3 40, Blk.grow 0 3 40, Blk.mem 32 [AV.int IntKind.i64 k, AV.str nm, AV.sl 3 (stripss 9 [Blk.grow 0 6 32, Blk.mem 23 [AV.sl 6 [] (some 0)], Blk.mem 3 [AV.int IntKind.i64 0], Blk.mem 24 [AV.int IntKind.i64 0], Blk.grow (List.length L + 1) 6 32, Blk.mem 45 [AV.str s, AV.int IntKind.i64 at', AV.sl 6 (L ++ [[AV.int IntKind.i64 k, AV.str nm, AV.sl 3 es (some 6), AV.str (cutL s (some fr) (some at')), AV.int IntKind.i64 fr, AV.int IntKind.i64 at']]) (some 4), AV.int IntKind.i64 hid], Blk.grow (List.length es) 3 40, Blk.grow 0 3 40, Blk.mem 32 [AV.int IntKind.i64 k, AV.str nm, AV.sl 3 es (some 6), AV.str [], AV.int IntKind.i64 0, AV.int IntKind.i64 0], Blk.mem 32 [AV.int IntKind.i64 k, AV.str nm, AV.sl 3 es (some 6), AV.str (cutL s (some fr) (some at')), AV.int IntKind.i64 fr, AV.int IntKind.i64 at']] es) (some 6), AV.str [], AV.int IntKind.i64 0, AV.int IntKind.i64 0]]))) :
    ToEnd cfg 27 (bodyOf Tryd.f27) (RetIn Tryd.prog Tryd.f27 (9) K) ([.code []]) .normal ([(0, true, .ptr 5 0), (1, true, .agg [.int .i64 k, .str nm, .sl 3 es (some 6), .str [], .int .i64 0, .int .i64 0]), (2, true, .int .i64 fr)]) (hTg s at' L hid k nm es) := by
  exact unr_ok hT 100000 _ _ _ _ (show unr cfg 27 (bodyOf Tryd.f27) (ctab []) ⟨[], []⟩ (RetIn Tryd.prog Tryd.f27 (9) K) 100000 ([.code []]) .normal ([(0, true, .ptr 5 0), (1, true, .agg [.int .i64 k, .str nm, .sl 3 es (some 6), .str [], .int .i64 0, .int .i64 0]), (2, true, .int .i64 fr)]) (hTg s at' L hid k nm es) from unr_use H (by kernel_rfl))

theorem t27r {K : AV → Hp → Prop} {s : List UInt8} {at' : Int} {L : List (List AV)} {hid : Int} {k : Int} {nm : List UInt8} {es : List (List AV)} {fr : Int} (hT : TabOk cfg (ctab [])) (H :
    gAnd (cutOb (List.length s) (some fr) (some at')) (gAnd (tagOk [Blk.grow 0 6 32, Blk.mem 23 [AV.sl 6 [] (some 0)], Blk.mem 3 [AV.int IntKind.i64 0], Blk.mem 24 [AV.int IntKind.i64 0], Blk.grow (List.length L) 6 32, Blk.mem 45 [AV.str s, AV.int IntKind.i64 at', AV.sl 6 L (some 4), AV.int IntKind.i64 hid], Blk.grow (List.length es) 3 40, Blk.grow 0 3 40, Blk.mem 32 [AV.int IntKind.i64 k, AV.str nm, AV.sl 3 es (some 6), AV.str [], AV.int IntKind.i64 0, AV.int IntKind.i64 0], Blk.grow 0 3 40, Blk.mem 32 [AV.int IntKind.i64 7, AV.str [], AV.sl 3 [] (some 9), AV.str (cutL s (some fr) (some at')), AV.int IntKind.i64 fr, AV.int IntKind.i64 at']] (List.length L) 6 32 (some 4) && true && true && true && decide ((List.length L + 1) * 80 ≤ 140737488355328) && true && true) (K (AV.tup []) [Blk.grow 0 6 32, Blk.mem 23 [AV.sl 6 [] (some 0)], Blk.mem 3 [AV.int IntKind.i64 0], Blk.mem 24 [AV.int IntKind.i64 0], Blk.grow (List.length L + 1) 6 32, Blk.mem 45 [AV.str s, AV.int IntKind.i64 at', AV.sl 6 (stripss 10 [Blk.grow 0 6 32, Blk.mem 23 [AV.sl 6 [] (some 0)], Blk.mem 3 [AV.int IntKind.i64 0], Blk.mem 24 [AV.int IntKind.i64 0], Blk.grow (List.length L + 1) 6 32, Blk.mem 45 [AV.str s, AV.int IntKind.i64 at', AV.sl 6 (L ++ [[AV.int IntKind.i64 7, AV.str [], AV.sl 3 [] (some 9), AV.str (cutL s (some fr) (some at')), AV.int IntKind.i64 fr, AV.int IntKind.i64 at']]) (some 4), AV.int IntKind.i64 hid], Blk.grow (List.length es) 3 40, Blk.grow 0 3 40, Blk.mem 32 [AV.int IntKind.i64 k, AV.str nm, AV.sl 3 es (some 6), AV.str [], AV.int IntKind.i64 0, AV.int IntKind.i64 0], Blk.grow 0 3 40, Blk.mem 32 [AV.int IntKind.i64 7, AV.str [], AV.sl 3 [] (some 9), AV.str (cutL s (some fr) (some at')), AV.int IntKind.i64 fr, AV.int IntKind.i64 at']] (L ++ [[AV.int IntKind.i64 7, AV.str [], AV.sl 3 [] (some 9), AV.str (cutL s (some fr) (some at')), AV.int IntKind.i64 fr, AV.int IntKind.i64 at']])) (some 4), AV.int IntKind.i64 hid], Blk.grow (List.length es) 3 40, Blk.grow 0 3 40, Blk.mem 32 [AV.int IntKind.i64 k, AV.str nm, AV.sl 3 (stripss 10 [Blk.grow 0 6 32, Blk.mem 23 [AV.sl 6 [] (some 0)], Blk.mem 3 [AV.int IntKind.i64 0], Blk.mem 24 [AV.int IntKind.i64 0], Blk.grow (List.length L + 1) 6 32, Blk.mem 45 [AV.str s, AV.int IntKind.i64 at', AV.sl 6 (L ++ [[AV.int IntKind.i64 7, AV.str [], AV.sl 3 [] (some 9), AV.str (cutL s (some fr) (some at')), AV.int IntKind.i64 fr, AV.int IntKind.i64 at']]) (some 4), AV.int IntKind.i64 hid], Blk.grow (List.length es) 3 40, Blk.grow 0 3 40, Blk.mem 32 [AV.int IntKind.i64 k, AV.str nm, AV.sl 3 es (some 6), AV.str [], AV.int IntKind.i64 0, AV.int IntKind.i64 0], Blk.grow 0 3 40, Blk.mem 32 [AV.int IntKind.i64 7, AV.str [], AV.sl 3 [] (some 9), AV.str (cutL s (some fr) (some at')), AV.int IntKind.i64 fr, AV.int IntKind.i64 at']] es) (some 6), AV.str [], AV.int IntKind.i64 0, AV.int IntKind.i64 0], Blk.grow 0 3 40]))) :
    ToEnd cfg 27 (bodyOf Tryd.f27) (RetIn Tryd.prog Tryd.f27 (10) K) ([.code []]) .normal ([(0, true, .ptr 5 0), (1, true, .agg [.int .i64 7, .str [], .sl 3 [] (some 9), .str [], .int .i64 0, .int .i64 0]), (2, true, .int .i64 fr)]) (hTG s at' L hid k nm es) := by
  exact unr_ok hT 100000 _ _ _ _ (show unr cfg 27 (bodyOf Tryd.f27) (ctab []) ⟨[], []⟩ (RetIn Tryd.prog Tryd.f27 (10) K) 100000 ([.code []]) .normal ([(0, true, .ptr 5 0), (1, true, .agg [.int .i64 7, .str [], .sl 3 [] (some 9), .str [], .int .i64 0, .int .i64 0]), (2, true, .int .i64 fr)]) (hTG s at' L hid k nm es) from unr_use H (by kernel_rfl))

theorem t26 {K : AV → Hp → Prop} {s : List UInt8} {at' : Int} {L : List (List AV)} {hid : Int}  (hT : TabOk cfg (ctab [(27, addGC)])) (H :
    ∃ (s1 : List UInt8), ∃ (a2 : Nat), ∃ (fr3 : Nat), ∃ (L4 : List (List AV)), ∃ (hid5 : Int), ∃ (k6 : Int), Keep.okX [Blk.grow 0 3 40] L4 ∧ a2 ≤ List.length s1 ∧ List.length s1 ≤ 1000000 ∧ fr3 ≤ a2 ∧ List.length L4 ≤ 1000000 ∧ [AV.ptr 5 0, AV.agg [AV.int IntKind.i64 6, AV.str [], AV.sl 3 [] (some 6), AV.str [], AV.int IntKind.i64 0, AV.int IntKind.i64 0], AV.int IntKind.i64 at'] = [AV.ptr 5 0, AV.agg [AV.int IntKind.i64 k6, AV.str [], AV.sl 3 [] (some 6), AV.str [], AV.int IntKind.i64 0, AV.int IntKind.i64 0], AV.int IntKind.i64 (↑fr3 : Int)] ∧ [Blk.grow 0 6 32, Blk.mem 23 [AV.sl 6 [] (some 0)], Blk.mem 3 [AV.int IntKind.i64 0], Blk.mem 24 [AV.int IntKind.i64 0], Blk.grow (List.length L) 6 32, Blk.mem 45 [AV.str s, AV.int IntKind.i64 (IntKind.wrap IntKind.i64 (at' + 3)), AV.sl 6 L (some 4), AV.int IntKind.i64 (-1)], Blk.grow 0 3 40] = [Blk.grow 0 6 32, Blk.mem 23 [AV.sl 6 [] (some 0)], Blk.mem 3 [AV.int IntKind.i64 0], Blk.mem 24 [AV.int IntKind.i64 0], Blk.grow (List.length L4) 6 32, Blk.mem 45 [AV.str s1, AV.int IntKind.i64 (↑a2 : Int), AV.sl 6 L4 (some 4), AV.int IntKind.i64 hid5], Blk.grow 0 3 40] ∧ K (AV.tup []) [Blk.grow 0 6 32, Blk.mem 23 [AV.sl 6 [] (some 0)], Blk.mem 3 [AV.int IntKind.i64 0], Blk.mem 24 [AV.int IntKind.i64 0], Blk.grow (List.length (L4 ++ [row k6 [] [] (some 6) (cut s1 fr3 a2) (↑fr3 : Int) (↑a2 : Int)])) 6 32, Blk.mem 45 [AV.str s1, AV.int IntKind.i64 (↑a2 : Int), AV.sl 6 (stripss 6 [Blk.grow 0 6 32, Blk.mem 23 [AV.sl 6 [] (some 0)], Blk.mem 3 [AV.int IntKind.i64 0], Blk.mem 24 [AV.int IntKind.i64 0], Blk.grow (List.length (L4 ++ [row k6 [] [] (some 6) (cut s1 fr3 a2) (↑fr3 : Int) (↑a2 : Int)])) 6 32, Blk.mem 45 [AV.str s1, AV.int IntKind.i64 (↑a2 : Int), AV.sl 6 (L4 ++ [row k6 [] [] (some 6) (cut s1 fr3 a2) (↑fr3 : Int) (↑a2 : Int)]) (some 4), AV.int IntKind.i64 hid5], Blk.grow 0 3 40] (L4 ++ [row k6 [] [] (some 6) (cut s1 fr3 a2) (↑fr3 : Int) (↑a2 : Int)])) (some 4), AV.int IntKind.i64 hid5]]) :
    ToEnd cfg 26 (bodyOf Tryd.f26) (RetIn Tryd.prog Tryd.f26 (6) K) ([.code []]) .normal ([(0, true, .ptr 5 0)]) (hX s at' L hid) := by
  exact unr_ok hT 100000 _ _ _ _ (show unr cfg 26 (bodyOf Tryd.f26) (ctab [(27, addGC)]) ⟨[], []⟩ (RetIn Tryd.prog Tryd.f26 (6) K) 100000 ([.code []]) .normal ([(0, true, .ptr 5 0)]) (hX s at' L hid) from unr_use H (by kernel_rfl))

theorem t16 {K : AV → Hp → Prop} {s : List UInt8} {at' : Int} {L : List (List AV)} {hid : Int} {fr : Int} (hT : TabOk cfg (ctab [(27, addGC)])) (H :
    ifP (decide (fr < at')) (∃ (s1 : List UInt8), ∃ (a2 : Nat), ∃ (fr3 : Nat), ∃ (L4 : List (List AV)), ∃ (hid5 : Int), ∃ (k6 : Int), Keep.okX [Blk.grow 0 3 40] L4 ∧ a2 ≤ List.length s1 ∧ List.length s1 ≤ 1000000 ∧ fr3 ≤ a2 ∧ List.length L4 ≤ 1000000 ∧ [AV.ptr 5 0, AV.agg [AV.int IntKind.i64 1, AV.str [], AV.sl 3 [] (some 6), AV.str [], AV.int IntKind.i64 0, AV.int IntKind.i64 0], AV.int IntKind.i64 fr] = [AV.ptr 5 0, AV.agg [AV.int IntKind.i64 k6, AV.str [], AV.sl 3 [] (some 6), AV.str [], AV.int IntKind.i64 0, AV.int IntKind.i64 0], AV.int IntKind.i64 (↑fr3 : Int)] ∧ [Blk.grow 0 6 32, Blk.mem 23 [AV.sl 6 [] (some 0)], Blk.mem 3 [AV.int IntKind.i64 0], Blk.mem 24 [AV.int IntKind.i64 0], Blk.grow (List.length L) 6 32, Blk.mem 45 [AV.str s, AV.int IntKind.i64 at', AV.sl 6 L (some 4), AV.int IntKind.i64 hid], Blk.grow 0 3 40] = [Blk.grow 0 6 32, Blk.mem 23 [AV.sl 6 [] (some 0)], Blk.mem 3 [AV.int IntKind.i64 0], Blk.mem 24 [AV.int IntKind.i64 0], Blk.grow (List.length L4) 6 32, Blk.mem 45 [AV.str s1, AV.int IntKind.i64 (↑a2 : Int), AV.sl 6 L4 (some 4), AV.int IntKind.i64 hid5], Blk.grow 0 3 40] ∧ K (AV.tup []) [Blk.grow 0 6 32, Blk.mem 23 [AV.sl 6 [] (some 0)], Blk.mem 3 [AV.int IntKind.i64 0], Blk.mem 24 [AV.int IntKind.i64 0], Blk.grow (List.length (L4 ++ [row k6 [] [] (some 6) (cut s1 fr3 a2) (↑fr3 : Int) (↑a2 : Int)])) 6 32, Blk.mem 45 [AV.str s1, AV.int IntKind.i64 (↑a2 : Int), AV.sl 6 (stripss 6 [Blk.grow 0 6 32, Blk.mem 23 [AV.sl 6 [] (some 0)], Blk.mem 3 [AV.int IntKind.i64 0], Blk.mem 24 [AV.int IntKind.i64 0], Blk.grow (List.length (L4 ++ [row k6 [] [] (some 6) (cut s1 fr3 a2) (↑fr3 : Int) (↑a2 : Int)])) 6 32, Blk.mem 45 [AV.str s1, AV.int IntKind.i64 (↑a2 : Int), AV.sl 6 (L4 ++ [row k6 [] [] (some 6) (cut s1 fr3 a2) (↑fr3 : Int) (↑a2 : Int)]) (some 4), AV.int IntKind.i64 hid5], Blk.grow 0 3 40] (L4 ++ [row k6 [] [] (some 6) (cut s1 fr3 a2) (↑fr3 : Int) (↑a2 : Int)])) (some 4), AV.int IntKind.i64 hid5]]) (K (AV.tup []) [Blk.grow 0 6 32, Blk.mem 23 [AV.sl 6 [] (some 0)], Blk.mem 3 [AV.int IntKind.i64 0], Blk.mem 24 [AV.int IntKind.i64 0], Blk.grow (List.length L) 6 32, Blk.mem 45 [AV.str s, AV.int IntKind.i64 at', AV.sl 6 (stripss 6 [Blk.grow 0 6 32, Blk.mem 23 [AV.sl 6 [] (some 0)], Blk.mem 3 [AV.int IntKind.i64 0], Blk.mem 24 [AV.int IntKind.i64 0], Blk.grow (List.length L) 6 32, Blk.mem 45 [AV.str s, AV.int IntKind.i64 at', AV.sl 6 L (some 4), AV.int IntKind.i64 hid]] L) (some 4), AV.int IntKind.i64 hid]])) :
    ToEnd cfg 16 (bodyOf Tryd.f16) (RetIn Tryd.prog Tryd.f16 (6) K) ([.code []]) .normal ([(0, true, .ptr 5 0), (1, true, .int .i64 fr)]) (hX s at' L hid) := by
  exact unr_ok hT 100000 _ _ _ _ (show unr cfg 16 (bodyOf Tryd.f16) (ctab [(27, addGC)]) ⟨[], []⟩ (RetIn Tryd.prog Tryd.f16 (6) K) 100000 ([.code []]) .normal ([(0, true, .ptr 5 0), (1, true, .int .i64 fr)]) (hX s at' L hid) from unr_use H (by kernel_rfl))

theorem t15 {K : AV → Hp → Prop} {s : List UInt8} {at' : Int} {L : List (List AV)} {hid : Int}  (hT : TabOk cfg (ctab [(21, prefC), (24, blankC)])) (H :
    gAnd (cutOb (List.length s) (some at') none)
  (∃ (s1 : List UInt8),
    ∃ (x2 : List UInt8),
      [AV.str (cutL s (some at') none), AV.str [60, 101, 115, 105, 58]] = [AV.str s1, AV.str x2] ∧
        ifP (List.isPrefixOf x2 s1) (K (AV.fn (Fn.func 22) [AV.ptr 5 0] []) [Blk.grow 0 6 32, Blk.mem 23 [AV.sl 6 [] (some 0)], Blk.mem 3 [AV.int IntKind.i64 0], Blk.mem 24 [AV.int IntKind.i64 0], Blk.grow (List.length L) 6 32, Blk.mem 45 [AV.str s, AV.int IntKind.i64 at', AV.sl 6 (stripss 6 [Blk.grow 0 6 32, Blk.mem 23 [AV.sl 6 [] (some 0)], Blk.mem 3 [AV.int IntKind.i64 0], Blk.mem 24 [AV.int IntKind.i64 0], Blk.grow (List.length L) 6 32, Blk.mem 45 [AV.str s, AV.int IntKind.i64 at', AV.sl 6 L (some 4), AV.int IntKind.i64 hid]] L) (some 4), AV.int IntKind.i64 hid]])
          (∃ (s3 : List UInt8),
            ∃ (x4 : List UInt8),
              [AV.str (cutL s (some at') none), AV.str [60, 47, 101, 115, 105, 58]] = [AV.str s3, AV.str x4] ∧
                ifP (List.isPrefixOf x4 s3) (K (AV.fn (Fn.func 23) [AV.ptr 5 0] []) [Blk.grow 0 6 32, Blk.mem 23 [AV.sl 6 [] (some 0)], Blk.mem 3 [AV.int IntKind.i64 0], Blk.mem 24 [AV.int IntKind.i64 0], Blk.grow (List.length L) 6 32, Blk.mem 45 [AV.str s, AV.int IntKind.i64 at', AV.sl 6 (stripss 6 [Blk.grow 0 6 32, Blk.mem 23 [AV.sl 6 [] (some 0)], Blk.mem 3 [AV.int IntKind.i64 0], Blk.mem 24 [AV.int IntKind.i64 0], Blk.grow (List.length L) 6 32, Blk.mem 45 [AV.str s, AV.int IntKind.i64 at', AV.sl 6 L (some 4), AV.int IntKind.i64 hid]] L) (some 4), AV.int IntKind.i64 hid]])
                  (∃ (s5 : List UInt8),
                    ∃ (x6 : List UInt8),
                      [AV.str (cutL s (some at') none), AV.str [60, 33, 45, 45, 101, 115, 105]] = [AV.str s5, AV.str x6] ∧
                        ifP (List.isPrefixOf x6 s5)
                          (ifP (decide ((↑(List.length (cutL s (some at') none)) : Int) > 7)) (gAnd (inR 7 (List.length (cutL s (some at') none))) (∃ (c7 : UInt8), [AV.int IntKind.u8 (↑(UInt8.toNat (List.getD (cutL s (some at') none) 7 0)) : Int)] = [AV.int IntKind.u8 (↑(UInt8.toNat c7) : Int)] ∧ ifP (blB c7) (K (AV.fn (Fn.func 25) [AV.ptr 5 0] []) [Blk.grow 0 6 32, Blk.mem 23 [AV.sl 6 [] (some 0)], Blk.mem 3 [AV.int IntKind.i64 0], Blk.mem 24 [AV.int IntKind.i64 0], Blk.grow (List.length L) 6 32, Blk.mem 45 [AV.str s, AV.int IntKind.i64 at', AV.sl 6 (stripss 6 [Blk.grow 0 6 32, Blk.mem 23 [AV.sl 6 [] (some 0)], Blk.mem 3 [AV.int IntKind.i64 0], Blk.mem 24 [AV.int IntKind.i64 0], Blk.grow (List.length L) 6 32, Blk.mem 45 [AV.str s, AV.int IntKind.i64 at', AV.sl 6 L (some 4), AV.int IntKind.i64 hid]] L) (some 4), AV.int IntKind.i64 hid]]) (∃ (s8 : List UInt8), ∃ (x9 : List UInt8), [AV.str (cutL s (some at') none), AV.str [45, 45, 62]] = [AV.str s8, AV.str x9] ∧ ifP (List.isPrefixOf x9 s8) (ifP (decide (hid ≥ 0)) (K (AV.fn (Fn.func 26) [AV.ptr 5 0] []) [Blk.grow 0 6 32, Blk.mem 23 [AV.sl 6 [] (some 0)], Blk.mem 3 [AV.int IntKind.i64 0], Blk.mem 24 [AV.int IntKind.i64 0], Blk.grow (List.length L) 6 32, Blk.mem 45 [AV.str s, AV.int IntKind.i64 at', AV.sl 6 (stripss 6 [Blk.grow 0 6 32, Blk.mem 23 [AV.sl 6 [] (some 0)], Blk.mem 3 [AV.int IntKind.i64 0], Blk.mem 24 [AV.int IntKind.i64 0], Blk.grow (List.length L) 6 32, Blk.mem 45 [AV.str s, AV.int IntKind.i64 at', AV.sl 6 L (some 4), AV.int IntKind.i64 hid]] L) (some 4), AV.int IntKind.i64 hid]]) (K AV.nilf [Blk.grow 0 6 32, Blk.mem 23 [AV.sl 6 [] (some 0)], Blk.mem 3 [AV.int IntKind.i64 0], Blk.mem 24 [AV.int IntKind.i64 0], Blk.grow (List.length L) 6 32, Blk.mem 45 [AV.str s, AV.int IntKind.i64 at', AV.sl 6 (stripss 6 [Blk.grow 0 6 32, Blk.mem 23 [AV.sl 6 [] (some 0)], Blk.mem 3 [AV.int IntKind.i64 0], Blk.mem 24 [AV.int IntKind.i64 0], Blk.grow (List.length L) 6 32, Blk.mem 45 [AV.str s, AV.int IntKind.i64 at', AV.sl 6 L (some 4), AV.int IntKind.i64 hid]] L) (some 4), AV.int IntKind.i64 hid]])) (K AV.nilf [Blk.grow 0 6 32, Blk.mem 23 [AV.sl 6 [] (some 0)], Blk.mem 3 [AV.int IntKind.i64 0], Blk.mem 24 [AV.int IntKind.i64 0], Blk.grow (List.length L) 6 32, Blk.mem 45 [AV.str s, AV.int IntKind.i64 at', AV.sl 6 (stripss 6 [Blk.grow 0 6 32, Blk.mem 23 [AV.sl 6 [] (some 0)], Blk.mem 3 [AV.int IntKind.i64 0], Blk.mem 24 [AV.int IntKind.i64 0], Blk.grow (List.length L) 6 32, Blk.mem 45 [AV.str s, AV.int IntKind.i64 at', AV.sl 6 L (some 4), AV.int IntKind.i64 hid]] L) (some 4), AV.int IntKind.i64 hid]]))))
                            (∃ (s10 : List UInt8), ∃ (x11 : List UInt8), [AV.str (cutL s (some at') none), AV.str [45, 45, 62]] = [AV.str s10, AV.str x11] ∧ ifP (List.isPrefixOf x11 s10) (ifP (decide (hid ≥ 0)) (K (AV.fn (Fn.func 26) [AV.ptr 5 0] []) [Blk.grow 0 6 32, Blk.mem 23 [AV.sl 6 [] (some 0)], Blk.mem 3 [AV.int IntKind.i64 0], Blk.mem 24 [AV.int IntKind.i64 0], Blk.grow (List.length L) 6 32, Blk.mem 45 [AV.str s, AV.int IntKind.i64 at', AV.sl 6 (stripss 6 [Blk.grow 0 6 32, Blk.mem 23 [AV.sl 6 [] (some 0)], Blk.mem 3 [AV.int IntKind.i64 0], Blk.mem 24 [AV.int IntKind.i64 0], Blk.grow (List.length L) 6 32, Blk.mem 45 [AV.str s, AV.int IntKind.i64 at', AV.sl 6 L (some 4), AV.int IntKind.i64 hid]] L) (some 4), AV.int IntKind.i64 hid]]) (K AV.nilf [Blk.grow 0 6 32, Blk.mem 23 [AV.sl 6 [] (some 0)], Blk.mem 3 [AV.int IntKind.i64 0], Blk.mem 24 [AV.int IntKind.i64 0], Blk.grow (List.length L) 6 32, Blk.mem 45 [AV.str s, AV.int IntKind.i64 at', AV.sl 6 (stripss 6 [Blk.grow 0 6 32, Blk.mem 23 [AV.sl 6 [] (some 0)], Blk.mem 3 [AV.int IntKind.i64 0], Blk.mem 24 [AV.int IntKind.i64 0], Blk.grow (List.length L) 6 32, Blk.mem 45 [AV.str s, AV.int IntKind.i64 at', AV.sl 6 L (some 4), AV.int IntKind.i64 hid]] L) (some 4), AV.int IntKind.i64 hid]])) (K AV.nilf [Blk.grow 0 6 32, Blk.mem 23 [AV.sl 6 [] (some 0)], Blk.mem 3 [AV.int IntKind.i64 0], Blk.mem 24 [AV.int IntKind.i64 0], Blk.grow (List.length L) 6 32, Blk.mem 45 [AV.str s, AV.int IntKind.i64 at', AV.sl 6 (stripss 6 [Blk.grow 0 6 32, Blk.mem 23 [AV.sl 6 [] (some 0)], Blk.mem 3 [AV.int IntKind.i64 0], Blk.mem 24 [AV.int IntKind.i64 0], Blk.grow (List.length L) 6 32, Blk.mem 45 [AV.str s, AV.int IntKind.i64 at', AV.sl 6 L (some 4), AV.int IntKind.i64 hid]] L) (some 4), AV.int IntKind.i64 hid]])))
                          (∃ (s12 : List UInt8), ∃ (x13 : List UInt8), [AV.str (cutL s (some at') none), AV.str [45, 45, 62]] = [AV.str s12, AV.str x13] ∧ ifP (List.isPrefixOf x13 s12) (ifP (decide (hid ≥ 0)) (K (AV.fn (Fn.func 26) [AV.ptr 5 0] []) [Blk.grow 0 6 32, Blk.mem 23 [AV.sl 6 [] (some 0)], Blk.mem 3 [AV.int IntKind.i64 0], Blk.mem 24 [AV.int IntKind.i64 0], Blk.grow (List.length L) 6 32, Blk.mem 45 [AV.str s, AV.int IntKind.i64 at', AV.sl 6 (stripss 6 [Blk.grow 0 6 32, Blk.mem 23 [AV.sl 6 [] (some 0)], Blk.mem 3 [AV.int IntKind.i64 0], Blk.mem 24 [AV.int IntKind.i64 0], Blk.grow (List.length L) 6 32, Blk.mem 45 [AV.str s, AV.int IntKind.i64 at', AV.sl 6 L (some 4), AV.int IntKind.i64 hid]] L) (some 4), AV.int IntKind.i64 hid]]) (K AV.nilf [Blk.grow 0 6 32, Blk.mem 23 [AV.sl 6 [] (some 0)], Blk.mem 3 [AV.int IntKind.i64 0], Blk.mem 24 [AV.int IntKind.i64 0], Blk.grow (List.length L) 6 32, Blk.mem 45 [AV.str s, AV.int IntKind.i64 at', AV.sl 6 (stripss 6 [Blk.grow 0 6 32, Blk.mem 23 [AV.sl 6 [] (some 0)], Blk.mem 3 [AV.int IntKind.i64 0], Blk.mem 24 [AV.int IntKind.i64 0], Blk.grow (List.length L) 6 32, Blk.mem 45 [AV.str s, AV.int IntKind.i64 at', AV.sl 6 L (some 4), AV.int IntKind.i64 hid]] L) (some 4), AV.int IntKind.i64 hid]])) (K AV.nilf [Blk.grow 0 6 32, Blk.mem 23 [AV.sl 6 [] (some 0)], Blk.mem 3 [AV.int IntKind.i64 0], Blk.mem 24 [AV.int IntKind.i64 0], Blk.grow (List.length L) 6 32, Blk.mem 45 [AV.str s, AV.int IntKind.i64 at', AV.sl 6 (stripss 6 [Blk.grow 0 6 32, Blk.mem 23 [AV.sl 6 [] (some 0)], Blk.mem 3 [AV.int IntKind.i64 0], Blk.mem 24 [AV.int IntKind.i64 0], Blk.grow (List.length L) 6 32, Blk.mem 45 [AV.str s, AV.int IntKind.i64 at', AV.sl 6 L (some 4), AV.int IntKind.i64 hid]] L) (some 4), AV.int IntKind.i64 hid]])))))) :
    ToEnd cfg 15 (bodyOf Tryd.f15) (RetIn Tryd.prog Tryd.f15 (6) K) ([.code []]) .normal ([(0, true, .ptr 5 0)]) (hX s at' L hid) := by
  exact unr_ok hT 100000 _ _ _ _ (show unr cfg 15 (bodyOf Tryd.f15) (ctab [(21, prefC), (24, blankC)]) ⟨[], []⟩ (RetIn Tryd.prog Tryd.f15 (6) K) 100000 ([.code []]) .normal ([(0, true, .ptr 5 0)]) (hX s at' L hid) from unr_use H (by kernel_rfl))

end Go.Proofs.YtolmmodgneodbaaDoor
end

section
namespace Go.Proofs.YtolmmodgneodbaaDoor
open Go.Ai Go Go.Ai.Ex
set_option linter.unusedSimpArgs false
set_option linter.unusedVariables false
set_option maxRecDepth 100000
theorem hf27 : heapFn cfg 27 Tryd.f27 := ⟨by kernel_rfl, by kernel_rfl, by kernel_rfl, by kernel_rfl, by kernel_rfl, by kernel_rfl⟩
theorem hf26 : heapFn cfg 26 Tryd.f26 := ⟨by kernel_rfl, by kernel_rfl, by kernel_rfl, by kernel_rfl, by kernel_rfl, by kernel_rfl⟩
theorem hf16 : heapFn cfg 16 Tryd.f16 := ⟨by kernel_rfl, by kernel_rfl, by kernel_rfl, by kernel_rfl, by kernel_rfl, by kernel_rfl⟩
theorem hf15 : heapFn cfg 15 Tryd.f15 := ⟨by kernel_rfl, by kernel_rfl, by kernel_rfl, by kernel_rfl, by kernel_rfl, by kernel_rfl⟩

theorem stripss_app (n : Nat) (g : Hp) : ∀ (a b : List (List AV)), stripss n g (a ++ b) = stripss n g a ++ stripss n g b
  | [], b => rfl
  | x :: a, b => by rw [List.cons_append, stripss, stripss, stripss_app n g a b]; rfl
theorem pureTs (l : List Tok) : pureV.pureVss (encTs l) = true := by
  unfold encTs
  induction l with
  | nil => rfl
  | cons a r ih => simp only [List.map_cons, encT, pureV.pureVss, pureV.pureVs, pureV, ih, pureAs, Option.isNone_none, Bool.true_and, Bool.and_true]
theorem stripTs (n : Nat) (g : Hp) (l : List Tok) : stripss n g (encTs l) = encTs l := stripss_pure _ _ _ (pureTs l)
theorem ok0 (l : List Tok) : Keep.okX [] (encTs l) := fun n g _ => ⟨rfl, stripTs n g l⟩
theorem okG (l : List Tok) : Keep.okX [.grow 0 3 40] (encTs l) := fun n g _ => ⟨rfl, stripTs n g l⟩
theorem blt6 {n : Nat} (h : 9 ≤ n) : Nat.blt 6 n = true := Nat.ble_eq_true_of_le (by omega)
/-- A row, stripped. -/
theorem strip_row {n : Nat} (g : Hp) {L : List (List AV)} (hL : stripss n g L = L) {k fr to : Int} {nm t : List UInt8} {es : List (List AV)} (he : stripss n g es = es) {id : Nat} (hi : Nat.blt id n = true) :
    stripss n g (L ++ [[.int .i64 k, .str nm, .sl 3 es (some id), .str t, .int .i64 fr, .int .i64 to]]) = L ++ [[.int .i64 k, .str nm, .sl 3 es (some id), .str t, .int .i64 fr, .int .i64 to]] := by
  rw [stripss_app, hL]
  simp only [stripss, strips, strip, he, hi, cond_true]
theorem strip_row0 {n : Nat} (g : Hp) {L : List (List AV)} (hL : stripss n g L = L) {k fr to : Int} {nm t : List UInt8} {es : List (List AV)} (he : stripss n g es = es) {id : Nat} (hi : Nat.blt id n = false) :
    stripss n g (L ++ [[.int .i64 k, .str nm, .sl 3 es (some id), .str t, .int .i64 fr, .int .i64 to]]) = L ++ [[.int .i64 k, .str nm, .sl 3 es none, .str t, .int .i64 fr, .int .i64 to]] := by
  rw [stripss_app, hL]
  simp only [stripss, strips, strip, he, hi, cond_false]
theorem len_app {α : Type} (L : List α) (x : α) : (L ++ [x]).length = L.length + 1 := by simp
theorem tag_ok {h : Hp} {n : Nat} (e : h[4]? = some (.grow n 6 32)) : tagOk h n 6 32 (some 4) = true := by
  simp only [tagOk, e, Nat.beq_refl, Bool.and_self]

theorem c27g : COk cfg 27 addGC := by
  refine cok_heap hf27 fun vs h K ht => ?_
  obtain ⟨s, a, fr, L, hid, k, hok, ha, hs, hf, hl, rfl, rfl, hk⟩ := ht
  obtain ⟨e1, e2⟩ := cut_cutL s hf ha
  have hL := fun g => (hok 7 g (Nat.le_refl _)).2
  refine t27g noT (gAnd_intro e2 (gAnd_intro ?_ ?_))
  · rw [tag_ok rfl, decide_eq_true (by unfold limE at hl; omega)]; rfl
  · rw [strip_row _ (hL _) rfl rfl, e1]
    unfold hG at hk
    rw [len_app] at hk
    exact hk
theorem c27t : COk cfg 27 addTC := by
  refine cok_heap hf27 fun vs h K ht => ?_
  obtain ⟨s, a, fr, L, hid, k, nm, l, hok, ha, hs, hf, hl, rfl, rfl, hk⟩ := ht
  obtain ⟨e1, e2⟩ := cut_cutL s hf ha
  have hL := fun g => (hok 9 g (Nat.le_refl _)).2
  refine t27t noT (gAnd_intro e2 (gAnd_intro ?_ ?_))
  · rw [tag_ok rfl, decide_eq_true (by unfold limE at hl; omega)]; rfl
  · rw [strip_row _ (hL _) (stripAs _ _ _) rfl, e1, stripAs]
    unfold hTg at hk
    rw [len_app] at hk
    exact hk
theorem c27r : COk cfg 27 addRC := by
  refine cok_heap hf27 fun vs h K ht => ?_
  obtain ⟨s, a, fr, L, hid, k, nm, l, hok, ha, hs, hf, hl, rfl, rfl, hk⟩ := ht
  obtain ⟨e1, e2⟩ := cut_cutL s hf ha
  have hL := fun g => (hok 10 g (Nat.le_refl _)).2
  refine t27r noT (gAnd_intro e2 (gAnd_intro ?_ ?_))
  · rw [tag_ok rfl, decide_eq_true (by unfold limE at hl; omega)]; rfl
  · rw [strip_row _ (hL _) rfl rfl, e1, stripAs]
    unfold hTG at hk
    rw [len_app] at hk
    exact hk
theorem encTs_app (l m : List Tok) : encTs (l ++ m) = encTs l ++ encTs m := by unfold encTs; rw [List.map_append]
theorem encTs_len (l : List Tok) : (encTs l).length = l.length := by simp [encTs]
theorem wrap_add {a b : Nat} (h : a + b ≤ 2 * limE) : IntKind.wrap .i64 ((a : Int) + (b : Int)) = ((a + b : Nat) : Int) := by
  unfold limE at h; rw [wrap_in] <;> omega
theorem tab27g : TabOk cfg (ctab [(27, addGC)]) := ctab_ok (ctab_cons c27g ctab_nil)
theorem c26 : COk cfg 26 showTC := by
  refine cok_heap hf26 fun vs h K ht => ?_
  obtain ⟨s, a, l, hid, ha, hs, hl, rfl, rfl, hk⟩ := ht
  have e3 : IntKind.wrap .i64 ((a : Int) + 3) = ((a + 3 : Nat) : Int) := wrap_add (b := 3) (by omega)
  refine t26 tab27g ⟨s, a + 3, a, encTs l, -1, 6, okG l, ha, hs, by omega, by rw [encTs_len]; exact Nat.le_trans hl hs, rfl, by rw [e3], ?_⟩
  rw [encTs_app] at hk
  unfold row
  rw [strip_row0 _ (stripTs _ _ _) rfl rfl, len_app]
  unfold hX at hk
  rw [show encTs [(⟨6, [], [], cut s a (a + 3), a, a + 3⟩ : Tok)] = [row 6 [] [] none (cut s a (a + 3)) a ((a + 3 : Nat) : Int)] from rfl, len_app] at hk
  exact hk
theorem c16 : COk cfg 16 textTC := by
  refine cok_heap hf16 fun vs h K ht => ?_
  obtain ⟨s, fr, a, l, hid, hf, ha, hs, hl, rfl, rfl, hk⟩ := ht
  refine t16 tab27g (ifP_intro (fun x => ⟨s, a, fr, encTs l, hid, 1, okG l, ha, hs, hf, by rw [encTs_len]; exact Nat.le_trans hl hs, rfl, rfl, ?_⟩) fun x => ?_)
  · have hlt : fr < a := by simp at x; omega
    rw [textL, if_pos hlt, encTs_app] at hk
    unfold row
    rw [strip_row0 _ (stripTs _ _ _) rfl rfl, len_app]
    unfold hX at hk
    rw [show encTs [(⟨1, [], [], cut s fr a, fr, a⟩ : Tok)] = [row 1 [] [] none (cut s fr a) fr a] from rfl, len_app] at hk
    exact hk
  · have hlt : ¬ fr < a := by simp at x; omega
    rw [textL, if_neg hlt, List.append_nil] at hk
    rw [stripTs]
    exact hk
theorem cut_from (s : List UInt8) {a : Nat} (h : a ≤ s.length) : cutL s (some (a : Int)) none = s.drop a ∧ cutOb s.length (some (a : Int)) none = true := by
  refine ⟨by simp only [cutL, Int.toNat_natCast], ?_⟩
  simp only [cutOb]
  rw [decide_eq_true (by omega), decide_eq_true (by omega)]; rfl
theorem tab15 : TabOk cfg (ctab [(21, Ex.prefC), (24, blankC)]) := ctab_ok (ctab_cons c21 (ctab_cons c24 ctab_nil))
theorem c15 : COk cfg 15 findC := by
  refine cok_heap hf15 fun vs h K ht => ?_
  obtain ⟨s, a, l, hid, ha, hs, rfl, rfl, hk⟩ := ht
  obtain ⟨e1, e2⟩ := cut_from s ha
  refine t15 tab15 (gAnd_intro e2 ?_)
  rw [e1]
  simp only [stripTs]
  have hh : hideB s a = (hidesS.isPrefixOf (s.drop a) && (decide (((s.drop a).length : Int) > 7) && blB ((s.drop a).getD 7 0))) := by
    unfold hideB has
    rw [← getD_drop', List.length_drop]
    congr 2
    rw [decide_eq_decide]
    omega
  have tail : hideB s a = false → has s opensS a = false → has s closesS a = false → ∃ (s8 x9 : List UInt8), [AV.str (s.drop a), AV.str [45, 45, 62]] = [AV.str s8, AV.str x9] ∧ ifP (x9.isPrefixOf s8) (ifP (decide (hid ≥ 0)) (K (.fn (.func 26) [.ptr 5 0] []) (hX s a (encTs l) hid)) (K .nilf (hX s a (encTs l) hid))) (K .nilf (hX s a (encTs l) hid)) := by
    intro h3 h1 h2
    refine ⟨s.drop a, showsS, rfl, ifP_intro (fun x => ifP_intro (fun y => ?_) fun y => ?_) fun x => ?_⟩
    all_goals
      have x' : has s showsS a = _ := x
      simp only [findV, h1, h2, h3, x', Bool.false_eq_true, if_false, Bool.true_and, Bool.false_and] at hk
      first | (rw [if_pos (by simpa using y)] at hk; exact hk) | (rw [if_neg (by simpa using y)] at hk; exact hk) | exact hk
  refine ⟨s.drop a, opensS, rfl, ifP_intro (fun x => ?_) fun h1 => ⟨s.drop a, closesS, rfl, ifP_intro (fun x => ?_) fun h2 => ⟨s.drop a, hidesS, rfl, ifP_intro (fun h3 => ifP_intro (fun h4 => gAnd_intro ?_ ⟨(s.drop a).getD 7 0, rfl, ifP_intro (fun h5 => ?_) fun h5 => ?_⟩) fun h4 => ?_) fun h3 => ?_⟩⟩⟩
  · rw [findV, if_pos (show has s opensS a = true from x)] at hk; exact hk
  · rw [findV, if_neg (by rw [show has s opensS a = false from h1]; simp), if_pos (show has s closesS a = true from x)] at hk; exact hk
  · exact inR_nat (i := 7) (by simp at h4 ⊢; omega)
  · rw [findV, if_neg (by rw [show has s opensS a = false from h1]; simp), if_neg (by rw [show has s closesS a = false from h2]; simp), if_pos (by rw [hh, h3, h4, h5]; rfl)] at hk; exact hk
  · exact tail (by rw [hh, h3, h4, h5]; rfl) h1 h2
  · exact tail (by rw [hh, h3, h4]; rfl) h1 h2
  · exact tail (by rw [hh, h3]; rfl) h1 h2
end Go.Proofs.YtolmmodgneodbaaDoor
end
