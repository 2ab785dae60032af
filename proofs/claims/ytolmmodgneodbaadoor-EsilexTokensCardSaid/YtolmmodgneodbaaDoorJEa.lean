/-
  Runs of the functions of a page's pieces, printed by a home tool; each is the kernel's word.
  Runs of the functions of a page's pieces, printed by a home tool; each is the kernel's word.
  Pieces of a page's text: bytes, words, lists of names: contracts.
  Pieces of a page's text: the reader's own steps: contracts.
  Runs of the functions of a page's pieces, printed by a home tool; each is the kernel's word.
  Pieces of a page's text: what adds a piece, what finds what stands next: contracts.
-/
import Derived.Test.YtolmmodgneodbaaDoorCfg
import Derived.Test.YtolmmodgneodbaaDoorJEo
section
namespace Go.Proofs.YtolmmodgneodbaaDoor
open Go.Ai Go Go.Ai.Ex
set_option maxRecDepth 100000
set_option linter.unusedVariables false
theorem t51 {v : AV} {c : Int} (hT : TabOk cfg (ctab [])) (H :
    ifP (decide (c ≥ 97)) (AV.bool (decide (c ≤ 122)) = v) (AV.bool false = v)) :
    ToEnd cfg 51 (bodyOf Tryd.f51) (RetIs Tryd.prog Tryd.f51 v) ([.code []]) .normal ([(0, true, .int .u8 c)]) ([]) := by
  exact unr_ok hT 100000 _ _ _ _ (show unr cfg 51 (bodyOf Tryd.f51) (ctab []) ⟨[], []⟩ (RetIs Tryd.prog Tryd.f51 v) 100000 ([.code []]) .normal ([(0, true, .int .u8 c)]) ([]) from unr_use H (by kernel_rfl))

theorem t24 {v : AV} {c : Int} (hT : TabOk cfg (ctab [(41, ixBC)])) (H :
    ∃ (s1 : List UInt8), ∃ (c2 : UInt8), List.length s1 ≤ 1000000 ∧ [AV.str [32, 9, 10, 13], AV.int IntKind.u8 c] = [AV.str s1, AV.int IntKind.u8 (↑(UInt8.toNat c2) : Int)] ∧ AV.bool (decide (Lib.indexByte s1 c2 ≥ 0)) = v) :
    ToEnd cfg 24 (bodyOf Tryd.f24) (RetIs Tryd.prog Tryd.f24 v) ([.code []]) .normal ([(0, true, .int .u8 c)]) ([]) := by
  exact unr_ok hT 100000 _ _ _ _ (show unr cfg 24 (bodyOf Tryd.f24) (ctab [(41, ixBC)]) ⟨[], []⟩ (RetIs Tryd.prog Tryd.f24 v) 100000 ([.code []]) .normal ([(0, true, .int .u8 c)]) ([]) from unr_use H (by kernel_rfl))

theorem t48 {K : AV → Hp → Prop} {s : List UInt8} {at' : Int} {L : List (List AV)} {hid : Int}  (hT : TabOk cfg (ctab [(51, smallC)])) (H :
    ToEnd cfg 48 (bodyOf Tryd.f48) (RetIn Tryd.prog Tryd.f48 6 K) [Fm.code [0, 0, 1, 1], Fm.block 0, Fm.code [1, 1, 1]] XT.normal [(0, true, AV.ptr 5 0), (3, true, AV.int IntKind.i64 at')] [Blk.grow 0 6 32, Blk.mem 23 [AV.sl 6 [] (some 0)], Blk.mem 3 [AV.int IntKind.i64 0], Blk.mem 24 [AV.int IntKind.i64 0], Blk.grow (List.length L) 6 32, Blk.mem 45 [AV.str s, AV.int IntKind.i64 at', AV.sl 6 L (some 4), AV.int IntKind.i64 hid]]) :
    ToEnd cfg 48 (bodyOf Tryd.f48) (RetIn Tryd.prog Tryd.f48 (6) K) ([.code []]) .normal ([(0, true, .ptr 5 0)]) (hX s at' L hid) := by
  exact unr_ok hT 100000 _ _ _ _ (show unr cfg 48 (bodyOf Tryd.f48) (ctab [(51, smallC)]) ⟨[[0, 0, 1, 1]], []⟩ (RetIn Tryd.prog Tryd.f48 (6) K) 100000 ([.code []]) .normal ([(0, true, .ptr 5 0)]) (hX s at' L hid) from unr_use H (by kernel_rfl))

theorem t48a {K : AV → Hp → Prop} {s : List UInt8} {at' : Int} {L : List (List AV)} {hid : Int} {fr : Int} (hT : TabOk cfg (ctab [(51, smallC)])) (H :
    ifP (decide (at' < (↑(List.length s) : Int))) (gAnd (inR at' (List.length s)) (∃ (c1 : UInt8), [AV.int IntKind.u8 (↑(UInt8.toNat (List.getD s (Int.toNat at') 0)) : Int)] = [AV.int IntKind.u8 (↑(UInt8.toNat c1) : Int)] ∧ ifP (smB c1) (ToEnd cfg 48 (bodyOf Tryd.f48) (RetIn Tryd.prog Tryd.f48 6 K) [Fm.code [0, 0, 1, 1], Fm.block 0, Fm.code [1, 1, 1]] XT.normal [(0, true, AV.ptr 5 0), (3, true, AV.int IntKind.i64 fr)] [Blk.grow 0 6 32, Blk.mem 23 [AV.sl 6 [] (some 0)], Blk.mem 3 [AV.int IntKind.i64 0], Blk.mem 24 [AV.int IntKind.i64 0], Blk.grow (List.length L) 6 32, Blk.mem 45 [AV.str s, AV.int IntKind.i64 (IntKind.wrap IntKind.i64 (at' + 1)), AV.sl 6 L (some 4), AV.int IntKind.i64 hid]]) (gAnd (cutOb (List.length s) (some fr) (some at')) (K (AV.str (cutL s (some fr) (some at'))) [Blk.grow 0 6 32, Blk.mem 23 [AV.sl 6 [] (some 0)], Blk.mem 3 [AV.int IntKind.i64 0], Blk.mem 24 [AV.int IntKind.i64 0], Blk.grow (List.length L) 6 32, Blk.mem 45 [AV.str s, AV.int IntKind.i64 at', AV.sl 6 (stripss 6 [Blk.grow 0 6 32, Blk.mem 23 [AV.sl 6 [] (some 0)], Blk.mem 3 [AV.int IntKind.i64 0], Blk.mem 24 [AV.int IntKind.i64 0], Blk.grow (List.length L) 6 32, Blk.mem 45 [AV.str s, AV.int IntKind.i64 at', AV.sl 6 L (some 4), AV.int IntKind.i64 hid]] L) (some 4), AV.int IntKind.i64 hid]])))) (gAnd (cutOb (List.length s) (some fr) (some at')) (K (AV.str (cutL s (some fr) (some at'))) [Blk.grow 0 6 32, Blk.mem 23 [AV.sl 6 [] (some 0)], Blk.mem 3 [AV.int IntKind.i64 0], Blk.mem 24 [AV.int IntKind.i64 0], Blk.grow (List.length L) 6 32, Blk.mem 45 [AV.str s, AV.int IntKind.i64 at', AV.sl 6 (stripss 6 [Blk.grow 0 6 32, Blk.mem 23 [AV.sl 6 [] (some 0)], Blk.mem 3 [AV.int IntKind.i64 0], Blk.mem 24 [AV.int IntKind.i64 0], Blk.grow (List.length L) 6 32, Blk.mem 45 [AV.str s, AV.int IntKind.i64 at', AV.sl 6 L (some 4), AV.int IntKind.i64 hid]] L) (some 4), AV.int IntKind.i64 hid]]))) :
    ToEnd cfg 48 (bodyOf Tryd.f48) (RetIn Tryd.prog Tryd.f48 (6) K) ([.code [0, 0, 1, 1], .block 0, .code [1, 1, 1]]) .normal ([(0, true, .ptr 5 0), (3, true, .int .i64 fr)]) (hX s at' L hid) := by
  exact ends_round hT 100000 (by kernel_rfl) (show unr cfg 48 (bodyOf Tryd.f48) (ctab [(51, smallC)]) ⟨[[0, 0, 1, 1]], []⟩ (RetIn Tryd.prog Tryd.f48 (6) K) 100000 ([.code [0, 0, 0, 1, 1], .loop [0, 0, 1, 1] 6, .block 0, .code [1, 1, 1]]) .normal ([(0, true, .ptr 5 0), (3, true, .int .i64 fr)]) (hX s at' L hid) from unr_use H (by kernel_rfl))

theorem t36a {K : AV → Hp → Prop} {s : List UInt8} {at' : Int} {L : List (List AV)} {hid : Int} {r : Hp} {fr : Int} (hT : TabOk cfg (ctab [(24, blankC)])) (H :
    ifP (decide (at' < (↑(List.length s) : Int))) (gAnd (inR at' (List.length s)) (∃ (c1 : UInt8), [AV.int IntKind.u8 (↑(UInt8.toNat (List.getD s (Int.toNat at') 0)) : Int)] = [AV.int IntKind.u8 (↑(UInt8.toNat c1) : Int)] ∧ ifP (blB c1) (ToEnd cfg 36 (bodyOf Tryd.f36) (RetIn Tryd.prog Tryd.f36 (List.length (hX s at' L hid ++ r)) K) [Fm.code [0, 0, 1, 1], Fm.block 0, Fm.code [1, 1, 1]] XT.normal [(0, true, AV.ptr 5 0), (3, true, AV.int IntKind.i64 fr)] (Blk.grow 0 6 32 :: Blk.mem 23 [AV.sl 6 [] (some 0)] :: Blk.mem 3 [AV.int IntKind.i64 0] :: Blk.mem 24 [AV.int IntKind.i64 0] :: Blk.grow (List.length L) 6 32 :: Blk.mem 45 [AV.str s, AV.int IntKind.i64 (IntKind.wrap IntKind.i64 (at' + 1)), AV.sl 6 L (some 4), AV.int IntKind.i64 hid] :: List.append [] r)) (K (AV.int IntKind.i64 (IntKind.wrap IntKind.i64 (at' - fr))) (Blk.grow 0 6 32 :: Blk.mem 23 [AV.sl 6 [] (some 0)] :: Blk.mem 3 [AV.int IntKind.i64 0] :: Blk.mem 24 [AV.int IntKind.i64 0] :: Blk.grow (List.length L) 6 32 :: Blk.mem 45 [AV.str s, AV.int IntKind.i64 at', AV.sl 6 (stripss (List.length (hX s at' L hid ++ r)) (Blk.grow 0 6 32 :: Blk.mem 23 [AV.sl 6 [] (some 0)] :: Blk.mem 3 [AV.int IntKind.i64 0] :: Blk.mem 24 [AV.int IntKind.i64 0] :: Blk.grow (List.length L) 6 32 :: Blk.mem 45 [AV.str s, AV.int IntKind.i64 at', AV.sl 6 L (some 4), AV.int IntKind.i64 hid] :: List.append [] r) L) (some 4), AV.int IntKind.i64 hid] :: List.map (stripB (List.length (hX s at' L hid ++ r)) (Blk.grow 0 6 32 :: Blk.mem 23 [AV.sl 6 [] (some 0)] :: Blk.mem 3 [AV.int IntKind.i64 0] :: Blk.mem 24 [AV.int IntKind.i64 0] :: Blk.grow (List.length L) 6 32 :: Blk.mem 45 [AV.str s, AV.int IntKind.i64 at', AV.sl 6 L (some 4), AV.int IntKind.i64 hid] :: List.append [] r)) (List.take (List.length (List.append [] r)) (List.append [] r)))))) (K (AV.int IntKind.i64 (IntKind.wrap IntKind.i64 (at' - fr))) (Blk.grow 0 6 32 :: Blk.mem 23 [AV.sl 6 [] (some 0)] :: Blk.mem 3 [AV.int IntKind.i64 0] :: Blk.mem 24 [AV.int IntKind.i64 0] :: Blk.grow (List.length L) 6 32 :: Blk.mem 45 [AV.str s, AV.int IntKind.i64 at', AV.sl 6 (stripss (List.length (hX s at' L hid ++ r)) (Blk.grow 0 6 32 :: Blk.mem 23 [AV.sl 6 [] (some 0)] :: Blk.mem 3 [AV.int IntKind.i64 0] :: Blk.mem 24 [AV.int IntKind.i64 0] :: Blk.grow (List.length L) 6 32 :: Blk.mem 45 [AV.str s, AV.int IntKind.i64 at', AV.sl 6 L (some 4), AV.int IntKind.i64 hid] :: List.append [] r) L) (some 4), AV.int IntKind.i64 hid] :: List.map (stripB (List.length (hX s at' L hid ++ r)) (Blk.grow 0 6 32 :: Blk.mem 23 [AV.sl 6 [] (some 0)] :: Blk.mem 3 [AV.int IntKind.i64 0] :: Blk.mem 24 [AV.int IntKind.i64 0] :: Blk.grow (List.length L) 6 32 :: Blk.mem 45 [AV.str s, AV.int IntKind.i64 at', AV.sl 6 L (some 4), AV.int IntKind.i64 hid] :: List.append [] r)) (List.take (List.length (List.append [] r)) (List.append [] r))))) :
    ToEnd cfg 36 (bodyOf Tryd.f36) (RetIn Tryd.prog Tryd.f36 ((hX s at' L hid ++ r).length) K) ([.code [0, 0, 1, 1], .block 0, .code [1, 1, 1]]) .normal ([(0, true, .ptr 5 0), (3, true, .int .i64 fr)]) (hX s at' L hid ++ r) := by
  exact ends_round hT 100000 (by kernel_rfl) (show unr cfg 36 (bodyOf Tryd.f36) (ctab [(24, blankC)]) ⟨[[0, 0, 1, 1]], []⟩ (RetIn Tryd.prog Tryd.f36 ((hX s at' L hid ++ r).length) K) 100000 ([.code [0, 0, 0, 1, 1], .loop [0, 0, 1, 1] (hX s at' L hid ++ r).length, .block 0, .code [1, 1, 1]]) .normal ([(0, true, .ptr 5 0), (3, true, .int .i64 fr)]) (hX s at' L hid ++ r) from unr_use H (by kernel_rfl))

theorem t36 {K : AV → Hp → Prop} {s : List UInt8} {at' : Int} {L : List (List AV)} {hid : Int} {r : Hp}  (hT : TabOk cfg (ctab [(24, blankC)])) (H :
    ToEnd cfg 36 (bodyOf Tryd.f36) (RetIn Tryd.prog Tryd.f36 (List.length (hX s at' L hid ++ r)) K) [Fm.code [0, 0, 1, 1], Fm.block 0, Fm.code [1, 1, 1]] XT.normal [(0, true, AV.ptr 5 0), (3, true, AV.int IntKind.i64 at')] (Blk.grow 0 6 32 :: Blk.mem 23 [AV.sl 6 [] (some 0)] :: Blk.mem 3 [AV.int IntKind.i64 0] :: Blk.mem 24 [AV.int IntKind.i64 0] :: Blk.grow (List.length L) 6 32 :: Blk.mem 45 [AV.str s, AV.int IntKind.i64 at', AV.sl 6 L (some 4), AV.int IntKind.i64 hid] :: List.append [] r)) :
    ToEnd cfg 36 (bodyOf Tryd.f36) (RetIn Tryd.prog Tryd.f36 ((hX s at' L hid ++ r).length) K) ([.code []]) .normal ([(0, true, .ptr 5 0)]) (hX s at' L hid ++ r) := by
  exact unr_ok hT 100000 _ _ _ _ (show unr cfg 36 (bodyOf Tryd.f36) (ctab [(24, blankC)]) ⟨[[0, 0, 1, 1]], []⟩ (RetIn Tryd.prog Tryd.f36 ((hX s at' L hid ++ r).length) K) 100000 ([.code []]) .normal ([(0, true, .ptr 5 0)]) (hX s at' L hid ++ r) from unr_use H (by kernel_rfl))

theorem t53 {K : AV → Hp → Prop} {s : List UInt8} {at' : Int} {L : List (List AV)} {hid : Int} {k : Int} {nm : List UInt8} {es : List (List AV)} {an av : List UInt8} {aa : Int} {bn bv : List UInt8} {ba : Int} (hT : TabOk cfg (ctab [])) (H :
    K (AV.bool (an == bn)) [Blk.grow 0 6 32, Blk.mem 23 [AV.sl 6 [] (some 0)], Blk.mem 3 [AV.int IntKind.i64 0], Blk.mem 24 [AV.int IntKind.i64 0], Blk.grow (List.length L) 6 32, Blk.mem 45 [AV.str s, AV.int IntKind.i64 at', AV.sl 6 (stripss 11 [Blk.grow 0 6 32, Blk.mem 23 [AV.sl 6 [] (some 0)], Blk.mem 3 [AV.int IntKind.i64 0], Blk.mem 24 [AV.int IntKind.i64 0], Blk.grow (List.length L) 6 32, Blk.mem 45 [AV.str s, AV.int IntKind.i64 at', AV.sl 6 L (some 4), AV.int IntKind.i64 hid], Blk.grow (List.length es) 3 40, Blk.grow 0 3 40, Blk.mem 32 [AV.int IntKind.i64 k, AV.str nm, AV.sl 3 es (some 6), AV.str [], AV.int IntKind.i64 0, AV.int IntKind.i64 0], Blk.mem 40 [AV.str [], AV.str [], AV.int IntKind.i64 0], Blk.mem 40 [AV.str an, AV.str av, AV.int IntKind.i64 aa], Blk.mem 40 [AV.str bn, AV.str bv, AV.int IntKind.i64 ba]] L) (some 4), AV.int IntKind.i64 hid], Blk.grow (List.length es) 3 40, Blk.grow 0 3 40, Blk.mem 32 [AV.int IntKind.i64 k, AV.str nm, AV.sl 3 (stripss 11 [Blk.grow 0 6 32, Blk.mem 23 [AV.sl 6 [] (some 0)], Blk.mem 3 [AV.int IntKind.i64 0], Blk.mem 24 [AV.int IntKind.i64 0], Blk.grow (List.length L) 6 32, Blk.mem 45 [AV.str s, AV.int IntKind.i64 at', AV.sl 6 L (some 4), AV.int IntKind.i64 hid], Blk.grow (List.length es) 3 40, Blk.grow 0 3 40, Blk.mem 32 [AV.int IntKind.i64 k, AV.str nm, AV.sl 3 es (some 6), AV.str [], AV.int IntKind.i64 0, AV.int IntKind.i64 0], Blk.mem 40 [AV.str [], AV.str [], AV.int IntKind.i64 0], Blk.mem 40 [AV.str an, AV.str av, AV.int IntKind.i64 aa], Blk.mem 40 [AV.str bn, AV.str bv, AV.int IntKind.i64 ba]] es) (some 6), AV.str [], AV.int IntKind.i64 0, AV.int IntKind.i64 0], Blk.mem 40 [AV.str [], AV.str [], AV.int IntKind.i64 0], Blk.mem 40 [AV.str an, AV.str av, AV.int IntKind.i64 aa]]) :
    ToEnd cfg 53 (bodyOf Tryd.f53) (RetIn Tryd.prog Tryd.f53 (11) K) ([.code []]) .normal ([(0, true, .agg [.str bn, .str bv, .int .i64 ba]), (1, true, .ptr 10 0)]) (hAt s at' L hid k nm es an av aa) := by
  exact unr_ok hT 100000 _ _ _ _ (show unr cfg 53 (bodyOf Tryd.f53) (ctab []) ⟨[], []⟩ (RetIn Tryd.prog Tryd.f53 (11) K) 100000 ([.code []]) .normal ([(0, true, .agg [.str bn, .str bv, .int .i64 ba]), (1, true, .ptr 10 0)]) (hAt s at' L hid k nm es an av aa) from unr_use H (by kernel_rfl))

theorem t52 {K : AV → Hp → Prop} {s : List UInt8} {at' : Int} {L : List (List AV)} {hid : Int} {k : Int} {nm : List UInt8} {es : List (List AV)} {an av : List UInt8} {aa : Int}  (hT : TabOk cfg (ctab [(63, dupIC)])) (H :
    ∃ (s1 : List UInt8), ∃ (a2 : Int), ∃ (L3 : List (List AV)), ∃ (hid4 : Int), ∃ (k5 : Int), ∃ (nm6 : List UInt8), ∃ (l7 : List Att), ∃ (an8 : List UInt8), ∃ (av9 : List UInt8), ∃ (aa10 : Int), Keep.okX (rA k5 nm6 (encAs l7) an8 av9 aa10) L3 ∧ [AV.sl 3 es (some 6), AV.fn (Fn.func 53) [] [AV.ptr 10 0]] = [AV.sl 3 (encAs l7) (some 6), AV.fn (Fn.func 53) [] [AV.ptr 10 0]] ∧ List.length l7 ≤ 1000000 ∧ [Blk.grow 0 6 32, Blk.mem 23 [AV.sl 6 [] (some 0)], Blk.mem 3 [AV.int IntKind.i64 0], Blk.mem 24 [AV.int IntKind.i64 0], Blk.grow (List.length L) 6 32, Blk.mem 45 [AV.str s, AV.int IntKind.i64 at', AV.sl 6 L (some 4), AV.int IntKind.i64 hid], Blk.grow (List.length es) 3 40, Blk.grow 0 3 40, Blk.mem 32 [AV.int IntKind.i64 k, AV.str nm, AV.sl 3 es (some 6), AV.str [], AV.int IntKind.i64 0, AV.int IntKind.i64 0], Blk.mem 40 [AV.str [], AV.str [], AV.int IntKind.i64 0], Blk.mem 40 [AV.str an, AV.str av, AV.int IntKind.i64 aa]] = [Blk.grow 0 6 32, Blk.mem 23 [AV.sl 6 [] (some 0)], Blk.mem 3 [AV.int IntKind.i64 0], Blk.mem 24 [AV.int IntKind.i64 0], Blk.grow (List.length L3) 6 32, Blk.mem 45 [AV.str s1, AV.int IntKind.i64 a2, AV.sl 6 L3 (some 4), AV.int IntKind.i64 hid4], Blk.grow (List.length (encAs l7)) 3 40, Blk.grow 0 3 40, Blk.mem 32 [AV.int IntKind.i64 k5, AV.str nm6, AV.sl 3 (encAs l7) (some 6), AV.str [], AV.int IntKind.i64 0, AV.int IntKind.i64 0], Blk.mem 40 [AV.str [], AV.str [], AV.int IntKind.i64 0], Blk.mem 40 [AV.str an8, AV.str av9, AV.int IntKind.i64 aa10]] ∧ ∀ (z11 : Int), (decide (z11 ≥ 0) = List.any l7 fun (b : Att) ↦ an8 == Att.name b) → K (AV.bool (decide (z11 ≥ 0))) [Blk.grow 0 6 32, Blk.mem 23 [AV.sl 6 [] (some 0)], Blk.mem 3 [AV.int IntKind.i64 0], Blk.mem 24 [AV.int IntKind.i64 0], Blk.grow (List.length L) 6 32, Blk.mem 45 [AV.str s, AV.int IntKind.i64 at', AV.sl 6 (stripss 11 [Blk.grow 0 6 32, Blk.mem 23 [AV.sl 6 [] (some 0)], Blk.mem 3 [AV.int IntKind.i64 0], Blk.mem 24 [AV.int IntKind.i64 0], Blk.grow (List.length L) 6 32, Blk.mem 45 [AV.str s, AV.int IntKind.i64 at', AV.sl 6 L (some 4), AV.int IntKind.i64 hid], Blk.grow (List.length es) 3 40, Blk.grow 0 3 40, Blk.mem 32 [AV.int IntKind.i64 k, AV.str nm, AV.sl 3 es (some 6), AV.str [], AV.int IntKind.i64 0, AV.int IntKind.i64 0], Blk.mem 40 [AV.str [], AV.str [], AV.int IntKind.i64 0], Blk.mem 40 [AV.str an, AV.str av, AV.int IntKind.i64 aa]] L) (some 4), AV.int IntKind.i64 hid], Blk.grow (List.length es) 3 40, Blk.grow 0 3 40, Blk.mem 32 [AV.int IntKind.i64 k, AV.str nm, AV.sl 3 (stripss 11 [Blk.grow 0 6 32, Blk.mem 23 [AV.sl 6 [] (some 0)], Blk.mem 3 [AV.int IntKind.i64 0], Blk.mem 24 [AV.int IntKind.i64 0], Blk.grow (List.length L) 6 32, Blk.mem 45 [AV.str s, AV.int IntKind.i64 at', AV.sl 6 L (some 4), AV.int IntKind.i64 hid], Blk.grow (List.length es) 3 40, Blk.grow 0 3 40, Blk.mem 32 [AV.int IntKind.i64 k, AV.str nm, AV.sl 3 es (some 6), AV.str [], AV.int IntKind.i64 0, AV.int IntKind.i64 0], Blk.mem 40 [AV.str [], AV.str [], AV.int IntKind.i64 0], Blk.mem 40 [AV.str an, AV.str av, AV.int IntKind.i64 aa]] es) (some 6), AV.str [], AV.int IntKind.i64 0, AV.int IntKind.i64 0], Blk.mem 40 [AV.str [], AV.str [], AV.int IntKind.i64 0], Blk.mem 40 [AV.str an, AV.str av, AV.int IntKind.i64 aa]]) :
    ToEnd cfg 52 (bodyOf Tryd.f52) (RetIn Tryd.prog Tryd.f52 (11) K) ([.code []]) .normal ([(0, true, .sl 3 es (some 6)), (1, true, .fn (.func 53) [] [.ptr 10 0])]) (hAt s at' L hid k nm es an av aa) := by
  exact unr_ok hT 100000 _ _ _ _ (show unr cfg 52 (bodyOf Tryd.f52) (ctab [(63, dupIC)]) ⟨[], []⟩ (RetIn Tryd.prog Tryd.f52 (11) K) 100000 ([.code []]) .normal ([(0, true, .sl 3 es (some 6)), (1, true, .fn (.func 53) [] [.ptr 10 0])]) (hAt s at' L hid k nm es an av aa) from unr_use H (by kernel_rfl))

theorem t63 {K : AV → Hp → Prop} {s : List UInt8} {at' : Int} {L : List (List AV)} {hid : Int} {k : Int} {nm : List UInt8} {es : List (List AV)} {an av : List UInt8} {aa : Int}  (hT : TabOk cfg (ctab [(53, sameNC)])) (H :
    ToEnd cfg 63 (bodyOf Tryd.f63) (RetIn Tryd.prog Tryd.f63 11 K) [Fm.code [0, 1, 0, 1], Fm.block 0, Fm.code [1, 1]] XT.normal [(0, true, AV.sl 3 es (some 6)), (1, true, AV.fn (Fn.func 53) [] [AV.ptr 10 0]), (7, true, AV.int IntKind.i64 (↑(List.length es) : Int)), (8, true, AV.int IntKind.i64 0)] [Blk.grow 0 6 32, Blk.mem 23 [AV.sl 6 [] (some 0)], Blk.mem 3 [AV.int IntKind.i64 0], Blk.mem 24 [AV.int IntKind.i64 0], Blk.grow (List.length L) 6 32, Blk.mem 45 [AV.str s, AV.int IntKind.i64 at', AV.sl 6 L (some 4), AV.int IntKind.i64 hid], Blk.grow (List.length es) 3 40, Blk.grow 0 3 40, Blk.mem 32 [AV.int IntKind.i64 k, AV.str nm, AV.sl 3 es (some 6), AV.str [], AV.int IntKind.i64 0, AV.int IntKind.i64 0], Blk.mem 40 [AV.str [], AV.str [], AV.int IntKind.i64 0], Blk.mem 40 [AV.str an, AV.str av, AV.int IntKind.i64 aa]]) :
    ToEnd cfg 63 (bodyOf Tryd.f63) (RetIn Tryd.prog Tryd.f63 (11) K) ([.code []]) .normal ([(0, true, .sl 3 es (some 6)), (1, true, .fn (.func 53) [] [.ptr 10 0])]) (hAt s at' L hid k nm es an av aa) := by
  exact unr_ok hT 100000 _ _ _ _ (show unr cfg 63 (bodyOf Tryd.f63) (ctab [(53, sameNC)]) ⟨[[0, 1, 0, 1]], [([0, 1, 0, 0, 1, 1, 0, 0, 1, 0, 1], 3, [.str, .str, .int .i64])]⟩ (RetIn Tryd.prog Tryd.f63 (11) K) 100000 ([.code []]) .normal ([(0, true, .sl 3 es (some 6)), (1, true, .fn (.func 53) [] [.ptr 10 0])]) (hAt s at' L hid k nm es an av aa) from unr_use H (by kernel_rfl))

theorem t49 {v : AV} {es : List (List AV)} {x : List UInt8} (hT : TabOk cfg (ctab [(60, inIC)])) (H :
    ∃ (l1 : List (List UInt8)), ∃ (x2 : List UInt8), [AV.sl 1 (stripss 0 [] es) none, AV.str x] = [AV.sl 1 (List.map (fun (n : List UInt8) ↦ [AV.str n]) l1) none, AV.str x2] ∧ List.length l1 ≤ 1000000 ∧ ∀ (z3 : Int), (decide (z3 ≥ 0) = List.any l1 fun (x : List UInt8) ↦ x == x2) → AV.bool (decide (z3 ≥ 0)) = v) :
    ToEnd cfg 49 (bodyOf Tryd.f49) (RetIs Tryd.prog Tryd.f49 v) ([.code []]) .normal ([(0, true, .sl 1 es none), (1, true, .str x)]) ([]) := by
  exact unr_ok hT 100000 _ _ _ _ (show unr cfg 49 (bodyOf Tryd.f49) (ctab [(60, inIC)]) ⟨[], []⟩ (RetIs Tryd.prog Tryd.f49 v) 100000 ([.code []]) .normal ([(0, true, .sl 1 es none), (1, true, .str x)]) ([]) from unr_use H (by kernel_rfl))

theorem t60 {v : AV} {es : List (List AV)} {x : List UInt8} (hT : TabOk cfg (ctab [])) (H :
    ToEnd cfg 60 (bodyOf Tryd.f60) (RetIs Tryd.prog Tryd.f60 v) [Fm.code [0, 1, 0, 1], Fm.block 0, Fm.code [1, 1]] XT.normal [(0, true, AV.sl 1 es none), (1, true, AV.str x), (7, true, AV.int IntKind.i64 (↑(List.length es) : Int)), (8, true, AV.int IntKind.i64 0)] []) :
    ToEnd cfg 60 (bodyOf Tryd.f60) (RetIs Tryd.prog Tryd.f60 v) ([.code []]) .normal ([(0, true, .sl 1 es none), (1, true, .str x)]) ([]) := by
  exact unr_ok hT 100000 _ _ _ _ (show unr cfg 60 (bodyOf Tryd.f60) (ctab []) ⟨[[0, 1, 0, 1]], [([0, 1, 0, 0, 1, 1, 0, 0, 1, 0, 1], 3, [.str])]⟩ (RetIs Tryd.prog Tryd.f60 v) 100000 ([.code []]) .normal ([(0, true, .sl 1 es none), (1, true, .str x)]) ([]) from unr_use H (by kernel_rfl))

theorem t60a {v : AV} {es : List (List AV)}  {s1 : List UInt8} {i7 : Int} {i8 : Int} (hT : TabOk cfg (ctab [])) (H :
    ifP (decide (i8 < i7)) (gAnd (inR i8 (List.length es) && true && true) (∃ (s1_1 : List UInt8), getE es i8 = [AV.str s1_1] ∧ ifP (s1 == s1_1) (AV.int IntKind.i64 i8 = v) (ToEnd cfg 60 (bodyOf Tryd.f60) (RetIs Tryd.prog Tryd.f60 v) [Fm.code [0, 1, 0, 1], Fm.block 0, Fm.code [1, 1]] XT.normal [(0, true, AV.sl 1 es none), (1, true, AV.str s1), (7, true, AV.int IntKind.i64 i7), (8, true, AV.int IntKind.i64 (IntKind.wrap IntKind.i64 (i8 + 1)))] []))) (AV.int IntKind.i64 (-1) = v)) :
    ToEnd cfg 60 (bodyOf Tryd.f60) (RetIs Tryd.prog Tryd.f60 v) ([.code [0, 1, 0, 1], Fm.block 0, Fm.code [1, 1]]) .normal ([(0, true, AV.sl 1 es none), (1, true, AV.str s1), (7, true, AV.int IntKind.i64 i7), (8, true, AV.int IntKind.i64 i8)]) ([]) := by
  exact ends_round hT 100000 (by kernel_rfl) (show unr cfg 60 (bodyOf Tryd.f60) (ctab []) ⟨[[0, 1, 0, 1]], [([0, 1, 0, 0, 1, 1, 0, 0, 1, 0, 1], 3, [.str])]⟩ (RetIs Tryd.prog Tryd.f60 v) 100000 ([.code [0, 0, 1, 0, 1], .loop [0, 1, 0, 1] 0, Fm.block 0, Fm.code [1, 1]]) .normal ([(0, true, AV.sl 1 es none), (1, true, AV.str s1), (7, true, AV.int IntKind.i64 i7), (8, true, AV.int IntKind.i64 i8)]) ([]) from unr_use H (by kernel_rfl))

theorem t34 {v : AV} {s x : List UInt8} (hT : TabOk cfg (ctab [])) (H :
    ifP (decide ((↑(List.length s) : Int) ≥ (↑(List.length x) : Int))) (gAnd (cutOb (List.length s) none (some (↑(List.length x) : Int))) (AV.bool (cutL s none (some (↑(List.length x) : Int)) == x) = v)) (AV.bool false = v)) :
    ToEnd cfg 34 (bodyOf Tryd.f34) (RetIs Tryd.prog Tryd.f34 v) ([.code []]) .normal ([(0, true, .str s), (1, true, .str x)]) ([]) := by
  exact unr_ok hT 100000 _ _ _ _ (show unr cfg 34 (bodyOf Tryd.f34) (ctab []) ⟨[], []⟩ (RetIs Tryd.prog Tryd.f34 v) 100000 ([.code []]) .normal ([(0, true, .str s), (1, true, .str x)]) ([]) from unr_use H (by kernel_rfl))

theorem t63a {K : AV → Hp → Prop} {s : List UInt8} {at' : Int} {L : List (List AV)} {hid : Int} {k : Int} {nm : List UInt8} {es : List (List AV)} {an av : List UInt8} {aa : Int} {j : Int} {m : Int} (hT : TabOk cfg (ctab [(53, sameNC)])) (H :
    ifP (decide (j < m))
  (gAnd (inR j (List.length es) && true && true)
    (∃ (s1 : List UInt8),
      ∃ (s2 : List UInt8),
        ∃ (z3 : Int),
          getE es j = [AV.str s1, AV.str s2, AV.int IntKind.i64 z3] ∧
            ∃ (s4 : List UInt8),
              ∃ (a5 : Int),
                ∃ (L6 : List (List AV)),
                  ∃ (hid7 : Int), ∃ (k8 : Int), ∃ (nm9 : List UInt8), ∃ (es10 : List (List AV)), ∃ (an11 : List UInt8), ∃ (av12 : List UInt8), ∃ (aa13 : Int), ∃ (b14 : Att), Keep.okX (rA k8 nm9 es10 an11 av12 aa13) L6 ∧ [AV.agg [AV.str s1, AV.str s2, AV.int IntKind.i64 z3], AV.ptr 10 0] = [AV.agg [AV.str (Att.name b14), AV.str (Att.value b14), AV.int IntKind.i64 (↑(Att.at' b14) : Int)], AV.ptr 10 0] ∧ [Blk.grow 0 6 32, Blk.mem 23 [AV.sl 6 [] (some 0)], Blk.mem 3 [AV.int IntKind.i64 0], Blk.mem 24 [AV.int IntKind.i64 0], Blk.grow (List.length L) 6 32, Blk.mem 45 [AV.str s, AV.int IntKind.i64 at', AV.sl 6 L (some 4), AV.int IntKind.i64 hid], Blk.grow (List.length es) 3 40, Blk.grow 0 3 40, Blk.mem 32 [AV.int IntKind.i64 k, AV.str nm, AV.sl 3 es (some 6), AV.str [], AV.int IntKind.i64 0, AV.int IntKind.i64 0], Blk.mem 40 [AV.str [], AV.str [], AV.int IntKind.i64 0], Blk.mem 40 [AV.str an, AV.str av, AV.int IntKind.i64 aa]] = [Blk.grow 0 6 32, Blk.mem 23 [AV.sl 6 [] (some 0)], Blk.mem 3 [AV.int IntKind.i64 0], Blk.mem 24 [AV.int IntKind.i64 0], Blk.grow (List.length L6) 6 32, Blk.mem 45 [AV.str s4, AV.int IntKind.i64 a5, AV.sl 6 L6 (some 4), AV.int IntKind.i64 hid7], Blk.grow (List.length es10) 3 40, Blk.grow 0 3 40, Blk.mem 32 [AV.int IntKind.i64 k8, AV.str nm9, AV.sl 3 es10 (some 6), AV.str [], AV.int IntKind.i64 0, AV.int IntKind.i64 0], Blk.mem 40 [AV.str [], AV.str [], AV.int IntKind.i64 0], Blk.mem 40 [AV.str an11, AV.str av12, AV.int IntKind.i64 aa13]] ∧ ifP (an11 == Att.name b14) (K (AV.int IntKind.i64 j) [Blk.grow 0 6 32, Blk.mem 23 [AV.sl 6 [] (some 0)], Blk.mem 3 [AV.int IntKind.i64 0], Blk.mem 24 [AV.int IntKind.i64 0], Blk.grow (List.length L) 6 32, Blk.mem 45 [AV.str s, AV.int IntKind.i64 at', AV.sl 6 (stripss 11 [Blk.grow 0 6 32, Blk.mem 23 [AV.sl 6 [] (some 0)], Blk.mem 3 [AV.int IntKind.i64 0], Blk.mem 24 [AV.int IntKind.i64 0], Blk.grow (List.length L) 6 32, Blk.mem 45 [AV.str s, AV.int IntKind.i64 at', AV.sl 6 L (some 4), AV.int IntKind.i64 hid], Blk.grow (List.length es) 3 40, Blk.grow 0 3 40, Blk.mem 32 [AV.int IntKind.i64 k, AV.str nm, AV.sl 3 es (some 6), AV.str [], AV.int IntKind.i64 0, AV.int IntKind.i64 0], Blk.mem 40 [AV.str [], AV.str [], AV.int IntKind.i64 0], Blk.mem 40 [AV.str an, AV.str av, AV.int IntKind.i64 aa]] L) (some 4), AV.int IntKind.i64 hid], Blk.grow (List.length es) 3 40, Blk.grow 0 3 40, Blk.mem 32 [AV.int IntKind.i64 k, AV.str nm, AV.sl 3 (stripss 11 [Blk.grow 0 6 32, Blk.mem 23 [AV.sl 6 [] (some 0)], Blk.mem 3 [AV.int IntKind.i64 0], Blk.mem 24 [AV.int IntKind.i64 0], Blk.grow (List.length L) 6 32, Blk.mem 45 [AV.str s, AV.int IntKind.i64 at', AV.sl 6 L (some 4), AV.int IntKind.i64 hid], Blk.grow (List.length es) 3 40, Blk.grow 0 3 40, Blk.mem 32 [AV.int IntKind.i64 k, AV.str nm, AV.sl 3 es (some 6), AV.str [], AV.int IntKind.i64 0, AV.int IntKind.i64 0], Blk.mem 40 [AV.str [], AV.str [], AV.int IntKind.i64 0], Blk.mem 40 [AV.str an, AV.str av, AV.int IntKind.i64 aa]] es) (some 6), AV.str [], AV.int IntKind.i64 0, AV.int IntKind.i64 0], Blk.mem 40 [AV.str [], AV.str [], AV.int IntKind.i64 0], Blk.mem 40 [AV.str an, AV.str av, AV.int IntKind.i64 aa]]) (ToEnd cfg 63 (bodyOf Tryd.f63) (RetIn Tryd.prog Tryd.f63 11 K) [Fm.code [0, 1, 0, 1], Fm.block 0, Fm.code [1, 1]] XT.normal [(0, true, AV.sl 3 es (some 6)), (1, true, AV.fn (Fn.func 53) [] [AV.ptr 10 0]), (7, true, AV.int IntKind.i64 m), (8, true, AV.int IntKind.i64 (IntKind.wrap IntKind.i64 (j + 1)))] [Blk.grow 0 6 32, Blk.mem 23 [AV.sl 6 [] (some 0)], Blk.mem 3 [AV.int IntKind.i64 0], Blk.mem 24 [AV.int IntKind.i64 0], Blk.grow (List.length L) 6 32, Blk.mem 45 [AV.str s, AV.int IntKind.i64 at', AV.sl 6 L (some 4), AV.int IntKind.i64 hid], Blk.grow (List.length es) 3 40, Blk.grow 0 3 40, Blk.mem 32 [AV.int IntKind.i64 k, AV.str nm, AV.sl 3 es (some 6), AV.str [], AV.int IntKind.i64 0, AV.int IntKind.i64 0], Blk.mem 40 [AV.str [], AV.str [], AV.int IntKind.i64 0], Blk.mem 40 [AV.str an, AV.str av, AV.int IntKind.i64 aa]])))
  (K (AV.int IntKind.i64 (-1)) [Blk.grow 0 6 32, Blk.mem 23 [AV.sl 6 [] (some 0)], Blk.mem 3 [AV.int IntKind.i64 0], Blk.mem 24 [AV.int IntKind.i64 0], Blk.grow (List.length L) 6 32, Blk.mem 45 [AV.str s, AV.int IntKind.i64 at', AV.sl 6 (stripss 11 [Blk.grow 0 6 32, Blk.mem 23 [AV.sl 6 [] (some 0)], Blk.mem 3 [AV.int IntKind.i64 0], Blk.mem 24 [AV.int IntKind.i64 0], Blk.grow (List.length L) 6 32, Blk.mem 45 [AV.str s, AV.int IntKind.i64 at', AV.sl 6 L (some 4), AV.int IntKind.i64 hid], Blk.grow (List.length es) 3 40, Blk.grow 0 3 40, Blk.mem 32 [AV.int IntKind.i64 k, AV.str nm, AV.sl 3 es (some 6), AV.str [], AV.int IntKind.i64 0, AV.int IntKind.i64 0], Blk.mem 40 [AV.str [], AV.str [], AV.int IntKind.i64 0], Blk.mem 40 [AV.str an, AV.str av, AV.int IntKind.i64 aa]] L) (some 4), AV.int IntKind.i64 hid], Blk.grow (List.length es) 3 40, Blk.grow 0 3 40, Blk.mem 32 [AV.int IntKind.i64 k, AV.str nm, AV.sl 3 (stripss 11 [Blk.grow 0 6 32, Blk.mem 23 [AV.sl 6 [] (some 0)], Blk.mem 3 [AV.int IntKind.i64 0], Blk.mem 24 [AV.int IntKind.i64 0], Blk.grow (List.length L) 6 32, Blk.mem 45 [AV.str s, AV.int IntKind.i64 at', AV.sl 6 L (some 4), AV.int IntKind.i64 hid], Blk.grow (List.length es) 3 40, Blk.grow 0 3 40, Blk.mem 32 [AV.int IntKind.i64 k, AV.str nm, AV.sl 3 es (some 6), AV.str [], AV.int IntKind.i64 0, AV.int IntKind.i64 0], Blk.mem 40 [AV.str [], AV.str [], AV.int IntKind.i64 0], Blk.mem 40 [AV.str an, AV.str av, AV.int IntKind.i64 aa]] es) (some 6), AV.str [], AV.int IntKind.i64 0, AV.int IntKind.i64 0], Blk.mem 40 [AV.str [], AV.str [], AV.int IntKind.i64 0], Blk.mem 40 [AV.str an, AV.str av, AV.int IntKind.i64 aa]])) :
    ToEnd cfg 63 (bodyOf Tryd.f63) (RetIn Tryd.prog Tryd.f63 (11) K) ([.code [0, 1, 0, 1], .block 0, .code [1, 1]]) .normal ([(0, true, .sl 3 es (some 6)), (1, true, .fn (.func 53) [] [.ptr 10 0]), (7, true, .int .i64 m), (8, true, .int .i64 j)]) (hAt s at' L hid k nm es an av aa) := by
  exact ends_round hT 100000 (by kernel_rfl) (show unr cfg 63 (bodyOf Tryd.f63) (ctab [(53, sameNC)]) ⟨[[0, 1, 0, 1]], [([0, 1, 0, 0, 1, 1, 0, 0, 1, 0, 1], 3, [.str, .str, .int .i64])]⟩ (RetIn Tryd.prog Tryd.f63 (11) K) 100000 ([.code [0, 0, 1, 0, 1], .loop [0, 1, 0, 1] 11, .block 0, .code [1, 1]]) .normal ([(0, true, .sl 3 es (some 6)), (1, true, .fn (.func 53) [] [.ptr 10 0]), (7, true, .int .i64 m), (8, true, .int .i64 j)]) (hAt s at' L hid k nm es an av aa) from unr_use H (by kernel_rfl))

theorem t21 {v : AV} {s x : List UInt8} (hT : TabOk cfg (ctab [(34, prefC)])) (H :
    ∃ (s1 : List UInt8), ∃ (x2 : List UInt8), [AV.str s, AV.str x] = [AV.str s1, AV.str x2] ∧ AV.bool (List.isPrefixOf x2 s1) = v) :
    ToEnd cfg 21 (bodyOf Tryd.f21) (RetIs Tryd.prog Tryd.f21 v) ([.code []]) .normal ([(0, true, .str s), (1, true, .str x)]) ([]) := by
  exact unr_ok hT 100000 _ _ _ _ (show unr cfg 21 (bodyOf Tryd.f21) (ctab [(34, prefC)]) ⟨[], []⟩ (RetIs Tryd.prog Tryd.f21 v) 100000 ([.code []]) .normal ([(0, true, .str s), (1, true, .str x)]) ([]) from unr_use H (by kernel_rfl))

theorem t14 {Q : Fr → Hp → Prop} {s : List UInt8} {at' : Int} {L : List (List AV)} {hid : Int} {p e : Int} (hT : TabOk cfg (ctab [])) (H :
    Q [(15, true, AV.int IntKind.i64 e), (14, true, AV.ptr 6 1), (13, true, AV.int IntKind.i64 p), (12, true, AV.ptr 6 0), (0, true, AV.ptr 1 0), (1, true, AV.ptr 2 0), (2, true, AV.ptr 3 0), (4, true, AV.ptr 6 0)] [Blk.grow 0 6 32, Blk.mem 23 [AV.sl 0 [] none], Blk.mem 3 [AV.int IntKind.i64 p], Blk.mem 24 [AV.int IntKind.i64 e], Blk.grow (List.length L) 6 32, Blk.mem 45 [AV.str s, AV.int IntKind.i64 at', AV.sl 6 L (some 4), AV.int IntKind.i64 hid], Blk.mem 42 [AV.int IntKind.i64 p, AV.int IntKind.i64 e]]) :
    ToEnd cfg 14 (bodyOf Tryd.f14) (Q) ([.code [1]]) .normal ([(0, true, .ptr 1 0), (1, true, .ptr 2 0), (2, true, .ptr 3 0), (6, true, .iface 42 (.agg [.int .i64 p, .int .i64 e]))]) (hX s at' L hid) := by
  exact unr_ok hT 100000 _ _ _ _ (show unr cfg 14 (bodyOf Tryd.f14) (ctab []) ⟨[], []⟩ (Q) 100000 ([.code [1]]) .normal ([(0, true, .ptr 1 0), (1, true, .ptr 2 0), (2, true, .ptr 3 0), (6, true, .iface 42 (.agg [.int .i64 p, .int .i64 e]))]) (hX s at' L hid) from unr_use H (by kernel_rfl))

end Go.Proofs.YtolmmodgneodbaaDoor
end

section
namespace Go.Proofs.YtolmmodgneodbaaDoor
open Go.Ai Go Go.Ai.Ex
set_option maxRecDepth 100000
set_option linter.unusedVariables false
theorem t37 {K : AV → Hp → Prop} {KP : PX → Hp → Prop} {s : List UInt8} {at' : Int} {L : List (List AV)} {hid : Int} {r : Hp} {tag : Int} (hT : TabPOk cfg pfE (ctabP [] [(17, failC)])) (H :
    ifP (at' == (↑(List.length s) : Int)) (∃ (p1 : Int), ∃ (e2 : Int), [AV.int IntKind.i64 tag, AV.int IntKind.i64 14] = [AV.int IntKind.i64 p1, AV.int IntKind.i64 e2] ∧ KP (p1, e2) (Blk.grow 0 6 32 :: Blk.mem 23 [AV.sl 6 [] (some 0)] :: Blk.mem 3 [AV.int IntKind.i64 0] :: Blk.mem 24 [AV.int IntKind.i64 0] :: Blk.grow (List.length L) 6 32 :: Blk.mem 45 [AV.str s, AV.int IntKind.i64 at', AV.sl 6 (stripss (List.length (hX s at' L hid ++ r)) (Blk.grow 0 6 32 :: Blk.mem 23 [AV.sl 6 [] (some 0)] :: Blk.mem 3 [AV.int IntKind.i64 0] :: Blk.mem 24 [AV.int IntKind.i64 0] :: Blk.grow (List.length L) 6 32 :: Blk.mem 45 [AV.str s, AV.int IntKind.i64 at', AV.sl 6 L (some 4), AV.int IntKind.i64 hid] :: List.append [] r) L) (some 4), AV.int IntKind.i64 hid] :: List.map (stripB (List.length (hX s at' L hid ++ r)) (Blk.grow 0 6 32 :: Blk.mem 23 [AV.sl 6 [] (some 0)] :: Blk.mem 3 [AV.int IntKind.i64 0] :: Blk.mem 24 [AV.int IntKind.i64 0] :: Blk.grow (List.length L) 6 32 :: Blk.mem 45 [AV.str s, AV.int IntKind.i64 at', AV.sl 6 L (some 4), AV.int IntKind.i64 hid] :: List.append [] r)) (List.take (List.length (List.append [] r)) (List.append [] r)))) (gAnd (inR at' (List.length s)) (K (AV.int IntKind.u8 (↑(UInt8.toNat (List.getD s (Int.toNat at') 0)) : Int)) (Blk.grow 0 6 32 :: Blk.mem 23 [AV.sl 6 [] (some 0)] :: Blk.mem 3 [AV.int IntKind.i64 0] :: Blk.mem 24 [AV.int IntKind.i64 0] :: Blk.grow (List.length L) 6 32 :: Blk.mem 45 [AV.str s, AV.int IntKind.i64 at', AV.sl 6 (stripss (List.length (hX s at' L hid ++ r)) (Blk.grow 0 6 32 :: Blk.mem 23 [AV.sl 6 [] (some 0)] :: Blk.mem 3 [AV.int IntKind.i64 0] :: Blk.mem 24 [AV.int IntKind.i64 0] :: Blk.grow (List.length L) 6 32 :: Blk.mem 45 [AV.str s, AV.int IntKind.i64 at', AV.sl 6 L (some 4), AV.int IntKind.i64 hid] :: List.append [] r) L) (some 4), AV.int IntKind.i64 hid] :: List.map (stripB (List.length (hX s at' L hid ++ r)) (Blk.grow 0 6 32 :: Blk.mem 23 [AV.sl 6 [] (some 0)] :: Blk.mem 3 [AV.int IntKind.i64 0] :: Blk.mem 24 [AV.int IntKind.i64 0] :: Blk.grow (List.length L) 6 32 :: Blk.mem 45 [AV.str s, AV.int IntKind.i64 at', AV.sl 6 L (some 4), AV.int IntKind.i64 hid] :: List.append [] r)) (List.take (List.length (List.append [] r)) (List.append [] r)))))) :
    ToE cfg 37 (bodyOf Tryd.f37) (retQ Tryd.prog Tryd.f37 pfE ((hX s at' L hid ++ r).length) K KP) ([.code []]) .normal ([(0, true, .ptr 5 0), (1, true, .int .i64 tag)]) (hX s at' L hid ++ r) := by
  exact unrP_ok hT 100000 _ _ _ _ (show unrP cfg 37 (bodyOf Tryd.f37) (ctabP [] [(17, failC)]) ⟨[], []⟩ (retQ Tryd.prog Tryd.f37 pfE ((hX s at' L hid ++ r).length) K KP) 100000 ([.code []]) .normal ([(0, true, .ptr 5 0), (1, true, .int .i64 tag)]) (hX s at' L hid ++ r) from unr_use H (by kernel_rfl))

theorem t39 {K : AV → Hp → Prop} {KP : PX → Hp → Prop} {s : List UInt8} {at' : Int} {L : List (List AV)} {hid : Int} {r : Hp} {tag : Int} {is : Bool} (hT : TabPOk cfg pfE (ctabP [] [(17, failC), (37, peekC)])) (H :
    ∃ (r1 : Hp),
  ∃ (s2 : List UInt8),
    ∃ (a3 : Nat),
      ∃ (L4 : List (List AV)), ∃ (hid5 : Int), ∃ (tag6 : Int), Keep.okX r1 L4 ∧ a3 ≤ List.length s2 ∧ List.length s2 ≤ 1000000 ∧ [AV.ptr 5 0, AV.int IntKind.i64 tag] = [AV.ptr 5 0, AV.int IntKind.i64 tag6] ∧ Blk.grow 0 6 32 :: Blk.mem 23 [AV.sl 6 [] (some 0)] :: Blk.mem 3 [AV.int IntKind.i64 0] :: Blk.mem 24 [AV.int IntKind.i64 0] :: Blk.grow (List.length L) 6 32 :: Blk.mem 45 [AV.str s, AV.int IntKind.i64 at', AV.sl 6 L (some 4), AV.int IntKind.i64 hid] :: List.append [] r = Blk.grow 0 6 32 :: Blk.mem 23 [AV.sl 6 [] (some 0)] :: Blk.mem 3 [AV.int IntKind.i64 0] :: Blk.mem 24 [AV.int IntKind.i64 0] :: Blk.grow (List.length L4) 6 32 :: Blk.mem 45 [AV.str s2, AV.int IntKind.i64 (↑a3 : Int), AV.sl 6 L4 (some 4), AV.int IntKind.i64 hid5] :: List.append [] r1 ∧ (a3 = List.length s2 → KP (tag6, 14) (Blk.grow 0 6 32 :: Blk.mem 23 [AV.sl 6 [] (some 0)] :: Blk.mem 3 [AV.int IntKind.i64 0] :: Blk.mem 24 [AV.int IntKind.i64 0] :: Blk.grow (List.length L) 6 32 :: Blk.mem 45 [AV.str s, AV.int IntKind.i64 at', AV.sl 6 (stripss (List.length (hX s at' L hid ++ r)) (Blk.grow 0 6 32 :: Blk.mem 23 [AV.sl 6 [] (some 0)] :: Blk.mem 3 [AV.int IntKind.i64 0] :: Blk.mem 24 [AV.int IntKind.i64 0] :: Blk.grow (List.length L) 6 32 :: Blk.mem 45 [AV.str s, AV.int IntKind.i64 at', AV.sl 6 L (some 4), AV.int IntKind.i64 hid] :: List.append [] r) L) (some 4), AV.int IntKind.i64 hid] :: List.map (stripB (List.length (hX s at' L hid ++ r)) (Blk.grow 0 6 32 :: Blk.mem 23 [AV.sl 6 [] (some 0)] :: Blk.mem 3 [AV.int IntKind.i64 0] :: Blk.mem 24 [AV.int IntKind.i64 0] :: Blk.grow (List.length L) 6 32 :: Blk.mem 45 [AV.str s, AV.int IntKind.i64 at', AV.sl 6 L (some 4), AV.int IntKind.i64 hid] :: List.append [] r)) (List.take (List.length (List.append [] r)) (List.append [] r)))) ∧ (a3 < List.length s2 → ifP (!is) (∃ (p9 : Int), ∃ (e10 : Int), [AV.int IntKind.i64 at', AV.int IntKind.i64 12] = [AV.int IntKind.i64 p9, AV.int IntKind.i64 e10] ∧ KP (p9, e10) (Blk.grow 0 6 32 :: Blk.mem 23 [AV.sl 6 [] (some 0)] :: Blk.mem 3 [AV.int IntKind.i64 0] :: Blk.mem 24 [AV.int IntKind.i64 0] :: Blk.grow (List.length L) 6 32 :: Blk.mem 45 [AV.str s, AV.int IntKind.i64 at', AV.sl 6 (stripss (List.length (hX s at' L hid ++ r)) (Blk.grow 0 6 32 :: Blk.mem 23 [AV.sl 6 [] (some 0)] :: Blk.mem 3 [AV.int IntKind.i64 0] :: Blk.mem 24 [AV.int IntKind.i64 0] :: Blk.grow (List.length L) 6 32 :: Blk.mem 45 [AV.str s, AV.int IntKind.i64 at', AV.sl 6 L (some 4), AV.int IntKind.i64 hid] :: List.append [] r) L) (some 4), AV.int IntKind.i64 hid] :: List.map (stripB (List.length (hX s at' L hid ++ r)) (Blk.grow 0 6 32 :: Blk.mem 23 [AV.sl 6 [] (some 0)] :: Blk.mem 3 [AV.int IntKind.i64 0] :: Blk.mem 24 [AV.int IntKind.i64 0] :: Blk.grow (List.length L) 6 32 :: Blk.mem 45 [AV.str s, AV.int IntKind.i64 at', AV.sl 6 L (some 4), AV.int IntKind.i64 hid] :: List.append [] r)) (List.take (List.length (List.append [] r)) (List.append [] r)))) (K (AV.tup []) (Blk.grow 0 6 32 :: Blk.mem 23 [AV.sl 6 [] (some 0)] :: Blk.mem 3 [AV.int IntKind.i64 0] :: Blk.mem 24 [AV.int IntKind.i64 0] :: Blk.grow (List.length L) 6 32 :: Blk.mem 45 [AV.str s, AV.int IntKind.i64 (IntKind.wrap IntKind.i64 (at' + 1)), AV.sl 6 (stripss (List.length (hX s at' L hid ++ r)) (Blk.grow 0 6 32 :: Blk.mem 23 [AV.sl 6 [] (some 0)] :: Blk.mem 3 [AV.int IntKind.i64 0] :: Blk.mem 24 [AV.int IntKind.i64 0] :: Blk.grow (List.length L) 6 32 :: Blk.mem 45 [AV.str s, AV.int IntKind.i64 (IntKind.wrap IntKind.i64 (at' + 1)), AV.sl 6 L (some 4), AV.int IntKind.i64 hid] :: List.append [] r) L) (some 4), AV.int IntKind.i64 hid] :: List.map (stripB (List.length (hX s at' L hid ++ r)) (Blk.grow 0 6 32 :: Blk.mem 23 [AV.sl 6 [] (some 0)] :: Blk.mem 3 [AV.int IntKind.i64 0] :: Blk.mem 24 [AV.int IntKind.i64 0] :: Blk.grow (List.length L) 6 32 :: Blk.mem 45 [AV.str s, AV.int IntKind.i64 (IntKind.wrap IntKind.i64 (at' + 1)), AV.sl 6 L (some 4), AV.int IntKind.i64 hid] :: List.append [] r)) (List.take (List.length (List.append [] r)) (List.append [] r)))))) :
    ToE cfg 39 (bodyOf Tryd.f39) (retQ Tryd.prog Tryd.f39 pfE ((hX s at' L hid ++ r).length) K KP) ([.code []]) .normal ([(0, true, .ptr 5 0), (1, true, .int .i64 tag), (2, true, .bool is)]) (hX s at' L hid ++ r) := by
  exact unrP_ok hT 100000 _ _ _ _ (show unrP cfg 39 (bodyOf Tryd.f39) (ctabP [] [(17, failC), (37, peekC)]) ⟨[], []⟩ (retQ Tryd.prog Tryd.f39 pfE ((hX s at' L hid ++ r).length) K KP) 100000 ([.code []]) .normal ([(0, true, .ptr 5 0), (1, true, .int .i64 tag), (2, true, .bool is)]) (hX s at' L hid ++ r) from unr_use H (by kernel_rfl))

theorem t35 {K : AV → Hp → Prop} {KP : PX → Hp → Prop} {s : List UInt8} {at' : Int} {L : List (List AV)} {hid : Int} {tag : Int} (hT : TabPOk cfg pfE (ctabP [(48, wordC), (50, fieldsC), (49, inC)] [(17, failC)])) (H :
    ∃ (s1 : List UInt8), ∃ (a2 : Nat), ∃ (L3 : List (List AV)), ∃ (hid4 : Int), Keep.okX [] L3 ∧ a2 ≤ List.length s1 ∧ List.length s1 ≤ 1000000 ∧ [AV.ptr 5 0] = [AV.ptr 5 0] ∧ [Blk.grow 0 6 32, Blk.mem 23 [AV.sl 6 [] (some 0)], Blk.mem 3 [AV.int IntKind.i64 0], Blk.mem 24 [AV.int IntKind.i64 0], Blk.grow (List.length L) 6 32, Blk.mem 45 [AV.str s, AV.int IntKind.i64 at', AV.sl 6 L (some 4), AV.int IntKind.i64 hid]] = [Blk.grow 0 6 32, Blk.mem 23 [AV.sl 6 [] (some 0)], Blk.mem 3 [AV.int IntKind.i64 0], Blk.mem 24 [AV.int IntKind.i64 0], Blk.grow (List.length L3) 6 32, Blk.mem 45 [AV.str s1, AV.int IntKind.i64 (↑a2 : Int), AV.sl 6 L3 (some 4), AV.int IntKind.i64 hid4]] ∧ ∃ (s5 : List UInt8), [AV.str [105, 110, 99, 108, 117, 100, 101, 32, 105, 110, 108, 105, 110, 101, 32, 114, 101, 109, 111, 118, 101, 32, 99, 111, 109, 109, 101, 110, 116, 32, 116, 114, 121, 32, 97, 116, 116, 101, 109, 112, 116, 32, 101, 120, 99, 101, 112, 116, 32, 99, 104, 111, 111, 115, 101, 32, 119, 104, 101, 110, 32, 111, 116, 104, 101, 114, 119, 105, 115, 101, 32, 118, 97, 114, 115]] = [AV.str s5] ∧ s5 = [105, 110, 99, 108, 117, 100, 101, 32, 105, 110, 108, 105, 110, 101, 32, 114, 101, 109, 111, 118, 101, 32, 99, 111, 109, 109, 101, 110, 116, 32, 116, 114, 121, 32, 97, 116, 116, 101, 109, 112, 116, 32, 101, 120, 99, 101, 112, 116, 32, 99, 104, 111, 111, 115, 101, 32, 119, 104, 101, 110, 32, 111, 116, 104, 101, 114, 119, 105, 115, 101, 32, 118, 97, 114, 115] ∧ ∃ (l6 : List (List UInt8)), ∃ (x7 : List UInt8), [AV.sl 1 [[AV.str [105, 110, 99, 108, 117, 100, 101]], [AV.str [105, 110, 108, 105, 110, 101]], [AV.str [114, 101, 109, 111, 118, 101]], [AV.str [99, 111, 109, 109, 101, 110, 116]], [AV.str [116, 114, 121]], [AV.str [97, 116, 116, 101, 109, 112, 116]], [AV.str [101, 120, 99, 101, 112, 116]], [AV.str [99, 104, 111, 111, 115, 101]], [AV.str [119, 104, 101, 110]], [AV.str [111, 116, 104, 101, 114, 119, 105, 115, 101]], [AV.str [118, 97, 114, 115]]] none, AV.str (List.take (lets s1 a2) (List.drop a2 s1))] = [AV.sl 1 (List.map (fun (n : List UInt8) ↦ [AV.str n]) l6) none, AV.str x7] ∧ List.length l6 ≤ 1000000 ∧ ifP (!List.any l6 fun (x : List UInt8) ↦ x == x7) (∃ (p8 : Int), ∃ (e9 : Int), [AV.int IntKind.i64 tag, AV.int IntKind.i64 11] = [AV.int IntKind.i64 p8, AV.int IntKind.i64 e9] ∧ KP (p8, e9) [Blk.grow 0 6 32, Blk.mem 23 [AV.sl 6 [] (some 0)], Blk.mem 3 [AV.int IntKind.i64 0], Blk.mem 24 [AV.int IntKind.i64 0], Blk.grow (List.length L3) 6 32, Blk.mem 45 [AV.str s1, AV.int IntKind.i64 (↑(a2 + lets s1 a2) : Int), AV.sl 6 (stripss 6 [Blk.grow 0 6 32, Blk.mem 23 [AV.sl 6 [] (some 0)], Blk.mem 3 [AV.int IntKind.i64 0], Blk.mem 24 [AV.int IntKind.i64 0], Blk.grow (List.length L3) 6 32, Blk.mem 45 [AV.str s1, AV.int IntKind.i64 (↑(a2 + lets s1 a2) : Int), AV.sl 6 L3 (some 4), AV.int IntKind.i64 hid4]] L3) (some 4), AV.int IntKind.i64 hid4]]) (K (AV.str (List.take (lets s1 a2) (List.drop a2 s1))) [Blk.grow 0 6 32, Blk.mem 23 [AV.sl 6 [] (some 0)], Blk.mem 3 [AV.int IntKind.i64 0], Blk.mem 24 [AV.int IntKind.i64 0], Blk.grow (List.length L3) 6 32, Blk.mem 45 [AV.str s1, AV.int IntKind.i64 (↑(a2 + lets s1 a2) : Int), AV.sl 6 (stripss 6 [Blk.grow 0 6 32, Blk.mem 23 [AV.sl 6 [] (some 0)], Blk.mem 3 [AV.int IntKind.i64 0], Blk.mem 24 [AV.int IntKind.i64 0], Blk.grow (List.length L3) 6 32, Blk.mem 45 [AV.str s1, AV.int IntKind.i64 (↑(a2 + lets s1 a2) : Int), AV.sl 6 L3 (some 4), AV.int IntKind.i64 hid4]] L3) (some 4), AV.int IntKind.i64 hid4]])) :
    ToE cfg 35 (bodyOf Tryd.f35) (retQ Tryd.prog Tryd.f35 pfE (6) K KP) ([.code []]) .normal ([(0, true, .ptr 5 0), (1, true, .int .i64 tag)]) (hX s at' L hid) := by
  exact unrP_ok hT 100000 _ _ _ _ (show unrP cfg 35 (bodyOf Tryd.f35) (ctabP [(48, wordC), (50, fieldsC), (49, inC)] [(17, failC)]) ⟨[], []⟩ (retQ Tryd.prog Tryd.f35 pfE (6) K KP) 100000 ([.code []]) .normal ([(0, true, .ptr 5 0), (1, true, .int .i64 tag)]) (hX s at' L hid) from unr_use H (by kernel_rfl))

end Go.Proofs.YtolmmodgneodbaaDoor
end

section
namespace Go.Proofs.YtolmmodgneodbaaDoor
open Go.Ai Go Go.Ai.Ex
set_option linter.unusedSimpArgs false
set_option linter.unusedVariables false
set_option maxRecDepth 100000
theorem pf51 : pureFn cfg 51 Tryd.f51 := ⟨by kernel_rfl, by kernel_rfl, by kernel_rfl, by kernel_rfl, by kernel_rfl, by kernel_rfl⟩
theorem pf24 : pureFn cfg 24 Tryd.f24 := ⟨by kernel_rfl, by kernel_rfl, by kernel_rfl, by kernel_rfl, by kernel_rfl, by kernel_rfl⟩
theorem pf34 : pureFn cfg 34 Tryd.f34 := ⟨by kernel_rfl, by kernel_rfl, by kernel_rfl, by kernel_rfl, by kernel_rfl, by kernel_rfl⟩
theorem pf21 : pureFn cfg 21 Tryd.f21 := ⟨by kernel_rfl, by kernel_rfl, by kernel_rfl, by kernel_rfl, by kernel_rfl, by kernel_rfl⟩
theorem pf49 : pureFn cfg 49 Tryd.f49 := ⟨by kernel_rfl, by kernel_rfl, by kernel_rfl, by kernel_rfl, by kernel_rfl, by kernel_rfl⟩
theorem pf60 : pureFn cfg 60 Tryd.f60 := ⟨by kernel_rfl, by kernel_rfl, by kernel_rfl, by kernel_rfl, by kernel_rfl, by kernel_rfl⟩
theorem noT : TabOk cfg (ctab []) := ctab_ok ctab_nil

theorem c41 : COk cfg 41 ixBC := by
  refine cok_prim (by kernel_rfl) (by kernel_rfl) (by kernel_rfl : cfg.prim 41 = some pByteIx) (by kernel_rfl) fun vs h K ht => ?_
  obtain ⟨s, c, hl, rfl, hk⟩ := ht
  have := c.toNat_lt
  refine ⟨.int .i64 (Lib.indexByte s c), hk, ?_⟩
  have e : (c.toNat : Int).toNat.toUInt8 = c := by simp
  simp only [pByteIx, e]
  rw [decide_eq_true (by omega), decide_eq_true (by omega)]; rfl
theorem c33 : COk cfg 33 ixSC := by
  refine cok_prim (by kernel_rfl) (by kernel_rfl) (by kernel_rfl : cfg.prim 33 = some pIndex) (by kernel_rfl) fun vs h K ht => ?_
  obtain ⟨s, x, hl, rfl, hk⟩ := ht
  refine ⟨.int .i64 (idxB s x 0), hk, ?_⟩
  have : Nat.blt s.length 4294967281 = true := Nat.ble_eq_true_of_le (by unfold limE at hl; omega)
  simp only [pIndex, this]
theorem c50 : COk cfg 50 fieldsC := by
  refine cok_prim (by kernel_rfl) (by kernel_rfl) (by kernel_rfl : cfg.prim 50 = some pFields) (by kernel_rfl) fun vs h K ht => ?_
  obtain ⟨s, rfl, rfl, hk⟩ := ht
  exact ⟨.sl 1 (namesL.map fun n => [.str n]) none, hk, by kernel_rfl⟩
theorem sm_iff (c : UInt8) : smB c = (decide ((c.toNat : Int) ≥ 97) && decide ((c.toNat : Int) ≤ 122)) := by
  unfold smB
  congr 1
  · rw [decide_eq_decide]; omega
  · rw [decide_eq_decide]; omega
theorem c51 : COk cfg 51 smallC := by
  refine cok_pure pf51 fun vs h K ht => ?_
  obtain ⟨c, rfl, hk⟩ := ht
  refine ⟨_, hk, t51 noT (ifP_intro (fun a => ?_) fun a => ?_)⟩
  · rw [sm_iff, a, Bool.true_and]
  · rw [sm_iff, a, Bool.false_and]
theorem bl_ix (c : UInt8) : decide (Lib.indexByte [32, 9, 10, 13] c ≥ 0) = blB c := by
  unfold blB
  simp only [Lib.indexByte]
  by_cases h1 : c = 32
  · subst h1; rfl
  by_cases h2 : c = 9
  · subst h2; rfl
  by_cases h3 : c = 10
  · subst h3; rfl
  by_cases h4 : c = 13
  · subst h4; rfl
  have e1 : ((32 : UInt8) == c) = false := by simpa using fun h => h1 h.symm
  have e2 : ((9 : UInt8) == c) = false := by simpa using fun h => h2 h.symm
  have e3 : ((10 : UInt8) == c) = false := by simpa using fun h => h3 h.symm
  have e4 : ((13 : UInt8) == c) = false := by simpa using fun h => h4 h.symm
  simp [h1, h2, h3, h4, e1, e2, e3, e4, Ne.symm h1, Ne.symm h2, Ne.symm h3, Ne.symm h4]
theorem c24 : COk cfg 24 blankC := by
  refine cok_pure pf24 fun vs h K ht => ?_
  obtain ⟨c, rfl, hk⟩ := ht
  exact ⟨_, hk, t24 (ctab_ok (ctab_cons c41 ctab_nil)) ⟨_, c, by decide, rfl, by rw [bl_ix]⟩⟩
theorem pref_take : ∀ (x s : List UInt8), x.isPrefixOf s = (decide (x.length ≤ s.length) && (s.take x.length == x))
  | [], s => by simp
  | a :: x, [] => by simp
  | a :: x, b :: s => by
    have := pref_take x s
    simp only [List.isPrefixOf_cons_cons, this, List.length_cons, List.take_succ_cons, List.cons_beq_cons]
    rw [show (decide (x.length + 1 ≤ s.length + 1)) = decide (x.length ≤ s.length) from by simp, show (a == b) = (b == a) from by rw [Bool.eq_iff_iff]; simp; exact eq_comm]
    cases (b == a) <;> cases decide (x.length ≤ s.length) <;> simp
theorem c34 : COk cfg 34 Ex.prefC := by
  refine cok_pure pf34 fun vs h K ht => ?_
  obtain ⟨s, x, rfl, hk⟩ := ht
  refine ⟨_, hk, t34 noT (ifP_intro (fun a => gAnd_intro ?_ ?_) fun a => ?_)⟩
  · simp [cutOb] at a ⊢; omega
  · simp at a
    rw [pref_take, decide_eq_true (by omega), Bool.true_and]
    simp [cutL]
  · simp at a
    rw [pref_take, decide_eq_false (by omega), Bool.false_and]
theorem c21 : COk cfg 21 Ex.prefC := by
  refine cok_pure pf21 fun vs h K ht => ?_
  obtain ⟨s, x, rfl, hk⟩ := ht
  exact ⟨_, hk, t21 (ctab_ok (ctab_cons c34 ctab_nil)) ⟨s, x, rfl, rfl⟩⟩

theorem wrap_nat {n : Nat} (h : n ≤ 2 * limE) : IntKind.wrap .i64 ((n : Int) + 1) = ((n + 1 : Nat) : Int) := by
  unfold limE at h; rw [wrap_in] <;> omega
theorem getE_map {α : Type} (f : α → List AV) (l : List α) {i : Nat} (h : i < l.length) : getE (l.map f) (i : Int) = f l[i] := by
  unfold getE
  simp [h]
theorem inR_nat {i n : Nat} (h : i < n) : inR (i : Int) n = true := by
  unfold inR
  rw [decide_eq_true (by omega), decide_eq_true (by omega)]; rfl
theorem purE (l : List (List UInt8)) : pureV.pureVss (l.map fun n => [AV.str n]) = true := by
  induction l with
  | nil => rfl
  | cons a r ih => simp only [List.map_cons, pureV.pureVss, pureV.pureVs, pureV, ih, Bool.true_and]
theorem any_drop {α : Type} (p : α → Bool) (l : List α) {i : Nat} (h : i < l.length) : (l.drop i).any p = (p l[i] || (l.drop (i + 1)).any p) := by
  rw [List.drop_eq_getElem_cons h, List.any_cons]

theorem loop60 (l : List (List UInt8)) (x : List UInt8) (hl : l.length ≤ limE) : ∀ (n i : Nat), l.length - i = n → i ≤ l.length → ∃ z : Int, decide (z ≥ 0) = (l.drop i).any (· == x) ∧
    ToEnd cfg 60 (bodyOf Tryd.f60) (RetIs Tryd.prog Tryd.f60 (.int .i64 z)) [.code [0, 1, 0, 1], .block 0, .code [1, 1]] .normal [(0, true, .sl 1 (l.map fun n => [.str n]) none), (1, true, .str x), (7, true, .int .i64 l.length), (8, true, .int .i64 i)] []
  | 0, i, hn, hi => by
    refine ⟨-1, ?_, t60a noT (ifP_intro (fun a => ?_) fun _ => rfl)⟩
    · rw [List.drop_of_length_le (by omega)]; rfl
    · simp at a; omega
  | n + 1, i, hn, hi => by
    have hlt : i < l.length := by omega
    by_cases hx : l[i] = x
    · refine ⟨i, ?_, t60a noT (ifP_intro (fun a => gAnd_intro ?_ ⟨l[i], getE_map _ l hlt, ifP_intro (fun _ => rfl) fun b => ?_⟩) fun a => ?_)⟩
      · rw [any_drop _ _ hlt, decide_eq_true (by omega)]; simp [hx]
      · rw [List.length_map, inR_nat hlt]; rfl
      · simp [hx] at b
      · simp at a; omega
    · obtain ⟨z, hz, hr⟩ := loop60 l x hl n (i + 1) (by omega) (by omega)
      refine ⟨z, ?_, t60a noT (ifP_intro (fun a => gAnd_intro ?_ ⟨l[i], getE_map _ l hlt, ifP_intro (fun b => ?_) fun b => ?_⟩) fun a => ?_)⟩
      · rw [hz, any_drop _ _ hlt]; simp [hx]
      · rw [List.length_map, inR_nat hlt]; rfl
      · simp at b; exact absurd b.symm hx
      · rw [wrap_nat (by omega)]; exact hr
      · simp at a; omega
theorem c60 : COk cfg 60 inIC := by
  refine cok_pure pf60 fun vs h K ht => ?_
  obtain ⟨l, x, rfl, hl, hk⟩ := ht
  obtain ⟨z, hz, hr⟩ := loop60 l x hl l.length 0 (by omega) (by omega)
  refine ⟨_, hk z hz, t60 noT ?_⟩
  rw [List.length_map]
  exact hr
theorem c49 : COk cfg 49 inC := by
  refine cok_pure pf49 fun vs h K ht => ?_
  obtain ⟨l, x, rfl, hl, hk⟩ := ht
  exact ⟨_, hk, t49 (ctab_ok (ctab_cons c60 ctab_nil)) ⟨l, x, by rw [stripss_pure 0 [] _ (purE l)], hl, fun z hz => by rw [hz]⟩⟩

/-! Words and blanks -/
theorem getD_drop' (s : List UInt8) (a j : Nat) : s.getD (a + j) 0 = (s.drop a).getD j 0 := by
  simp [List.getD_eq_getElem?_getD, List.getElem?_drop]
theorem tw_yes {p : UInt8 → Bool} : ∀ (l : List UInt8) (j : Nat), j < (l.takeWhile p).length → j < l.length ∧ p (l.getD j 0) = true
  | [], j, h => by simp at h
  | c :: r, j, h => by
    cases hc : p c with
    | false => simp [List.takeWhile_cons, hc] at h
    | true =>
      simp only [List.takeWhile_cons, hc, if_true, List.length_cons] at h
      cases j with
      | zero => exact ⟨by simp, by simpa using hc⟩
      | succ j =>
        obtain ⟨h1, h2⟩ := tw_yes (p := p) r j (by omega)
        exact ⟨by simp; omega, by simpa using h2⟩
theorem tw_no {p : UInt8 → Bool} : ∀ (l : List UInt8), (l.takeWhile p).length < l.length → p (l.getD (l.takeWhile p).length 0) = false
  | [], h => by simp at h
  | c :: r, h => by
    cases hc : p c with
    | false => simp [List.takeWhile_cons, hc]
    | true =>
      simp only [List.takeWhile_cons, hc, if_true, List.length_cons] at h ⊢
      have := tw_no (p := p) r (by omega)
      simpa using this
theorem lets_yes {s : List UInt8} {a b : Nat} (h1 : a ≤ b) (h2 : b < a + lets s a) : b < s.length ∧ smB (s.getD b 0) = true := by
  obtain ⟨j, rfl⟩ : ∃ j, b = a + j := ⟨b - a, by omega⟩
  unfold lets at h2
  obtain ⟨k1, k2⟩ := tw_yes (p := smB) (s.drop a) j (by omega)
  rw [List.length_drop] at k1
  exact ⟨by omega, by rw [getD_drop']; exact k2⟩
theorem lets_no {s : List UInt8} {a : Nat} (h : a + lets s a < s.length) : smB (s.getD (a + lets s a) 0) = false := by
  rw [getD_drop']
  exact tw_no (p := smB) (s.drop a) (by unfold lets at h; rw [List.length_drop]; omega)
theorem past_yes {s : List UInt8} {a b : Nat} (h1 : a ≤ b) (h2 : b < past s a) : b < s.length ∧ blB (s.getD b 0) = true := by
  obtain ⟨j, rfl⟩ : ∃ j, b = a + j := ⟨b - a, by omega⟩
  unfold past at h2
  obtain ⟨k1, k2⟩ := tw_yes (p := blB) (s.drop a) j (by omega)
  rw [List.length_drop] at k1
  exact ⟨by omega, by rw [getD_drop']; exact k2⟩
theorem past_no {s : List UInt8} {a : Nat} (h : past s a < s.length) : blB (s.getD (past s a) 0) = false := by
  unfold past at h ⊢
  rw [getD_drop']
  exact tw_no (p := blB) (s.drop a) (by rw [List.length_drop]; omega)
theorem byte_eq {s : List UInt8} {b : Nat} : [AV.int IntKind.u8 ((s.getD ((b : Int).toNat) 0).toNat : Int)] = [AV.int IntKind.u8 ((s.getD b 0).toNat : Int)] := by rw [Int.toNat_natCast]
theorem cut_cutL (s : List UInt8) {a b : Nat} (h : a ≤ b) (hb : b ≤ s.length) : cutL s (some (a : Int)) (some (b : Int)) = cut s a b ∧ cutOb s.length (some (a : Int)) (some (b : Int)) = true := by
  refine ⟨?_, ?_⟩
  · simp only [cutL, Int.toNat_natCast, cut]
    rw [List.drop_take]
  · simp only [cutOb]
    rw [decide_eq_true (by omega), decide_eq_true (by omega), decide_eq_true (by omega)]; rfl
theorem hf48 : heapFn cfg 48 Tryd.f48 := ⟨by kernel_rfl, by kernel_rfl, by kernel_rfl, by kernel_rfl, by kernel_rfl, by kernel_rfl⟩
theorem hf36 : heapFn cfg 36 Tryd.f36 := ⟨by kernel_rfl, by kernel_rfl, by kernel_rfl, by kernel_rfl, by kernel_rfl, by kernel_rfl⟩
theorem tab51 : TabOk cfg (ctab [(51, smallC)]) := ctab_ok (ctab_cons c51 ctab_nil)
theorem tab24 : TabOk cfg (ctab [(24, blankC)]) := ctab_ok (ctab_cons c24 ctab_nil)

theorem loop48 {K : AV → Hp → Prop} {s : List UInt8} {a : Nat} {L : List (List AV)} {hid : Int} (hok : Keep.okX [] L) (ha : a ≤ s.length) (hs : s.length ≤ limE) (hk : K (.str ((s.drop a).take (lets s a))) (hX s ((a + lets s a : Nat) : Int) L hid)) :
    ∀ (n b : Nat), a + lets s a - b = n → a ≤ b → b ≤ a + lets s a → ToEnd cfg 48 (bodyOf Tryd.f48) (RetIn Tryd.prog Tryd.f48 6 K) [.code [0, 0, 1, 1], .block 0, .code [1, 1, 1]] .normal [(0, true, .ptr 5 0), (3, true, .int .i64 a)] (hX s (b : Nat) L hid)
  | 0, b, hn, h1, h2 => by
    have hb : b = a + lets s a := by omega
    subst hb
    have hle : a + lets s a ≤ s.length := by have := lets_le s a; omega
    obtain ⟨e1, e2⟩ := cut_cutL s (show a ≤ a + lets s a by omega) hle
    have hL := fun g => (hok 6 g (by simp)).2
    have e3 : cut s a (a + lets s a) = (s.drop a).take (lets s a) := cut_take
    rw [← e3] at hk
    refine t48a tab51 (ifP_intro (fun x => gAnd_intro (inR_nat (by simp at x; omega)) ⟨s.getD (a + lets s a) 0, byte_eq, ifP_intro (fun y => ?_) fun y => gAnd_intro e2 ?_⟩) fun x => gAnd_intro e2 ?_)
    · rw [lets_no (by simp at x; omega)] at y; cases y
    · rw [e1, hL]; exact hk
    · rw [e1, hL]; exact hk
  | n + 1, b, hn, h1, h2 => by
    obtain ⟨k1, k2⟩ := lets_yes h1 (show b < a + lets s a by omega)
    refine t48a tab51 (ifP_intro (fun x => gAnd_intro (inR_nat k1) ⟨s.getD b 0, byte_eq, ifP_intro (fun y => ?_) fun y => ?_⟩) fun x => ?_)
    · rw [wrap_nat (by omega)]
      exact loop48 hok ha hs hk n (b + 1) (by omega) (by omega) (by omega)
    · rw [k2] at y; cases y
    · simp at x; omega
theorem c48 : COk cfg 48 wordC := by
  refine cok_heap hf48 fun vs h K ht => ?_
  obtain ⟨s, a, L, hid, hok, ha, hs, rfl, rfl, hk⟩ := ht
  exact t48 tab51 (loop48 hok ha hs hk _ a rfl (by omega) (by omega))

theorem loop36 {K : AV → Hp → Prop} {r : Hp} {s : List UInt8} {a : Nat} {L : List (List AV)} {hid : Int} (hok : Keep.okX r L) (ha : a ≤ s.length) (hs : s.length ≤ limE) (hk : K (.int .i64 ((past s a - a : Nat) : Int)) (hX s ((past s a : Nat) : Int) L hid ++ r)) :
    ∀ (n b : Nat), past s a - b = n → a ≤ b → b ≤ past s a → ToEnd cfg 36 (bodyOf Tryd.f36) (RetIn Tryd.prog Tryd.f36 (hX s (b : Nat) L hid ++ r).length K) [.code [0, 0, 1, 1], .block 0, .code [1, 1, 1]] .normal [(0, true, .ptr 5 0), (3, true, .int .i64 a)] (hX s (b : Nat) L hid ++ r)
  | 0, b, hn, h1, h2 => by
    have hb : b = past s a := by omega
    subst hb
    have hle := past_le ha
    have hN := fun g => hok (hX s ((past s a : Nat) : Int) L hid ++ r).length g (by simp [hX]; omega)
    have hN1 := fun g => (hN g).1
    have hN2 := fun g => (hN g).2
    have ew : IntKind.wrap .i64 ((past s a : Int) - (a : Int)) = ((past s a - a : Nat) : Int) := by
      unfold limE at hs
      rw [wrap_in] <;> omega
    have fin : K (.int .i64 (IntKind.wrap .i64 ((past s a : Int) - (a : Int)))) (Blk.grow 0 6 32 :: Blk.mem 23 [AV.sl 6 [] (some 0)] :: Blk.mem 3 [AV.int .i64 0] :: Blk.mem 24 [AV.int .i64 0] :: Blk.grow (List.length L) 6 32 :: Blk.mem 45 [AV.str s, AV.int .i64 (past s a : Nat), AV.sl 6 L (some 4), AV.int .i64 hid] :: r) := by rw [ew]; exact hk
    refine t36a tab24 (ifP_intro (fun x => gAnd_intro (inR_nat (by simp at x; omega)) ⟨s.getD (past s a) 0, byte_eq, ifP_intro (fun y => ?_) fun y => ?_⟩) fun x => ?_)
    · rw [past_no (by simp at x; omega)] at y; cases y
    · simp only [List.append_eq, List.nil_append, List.take_length, hN1, hN2]; exact fin
    · simp only [List.append_eq, List.nil_append, List.take_length, hN1, hN2]; exact fin
  | n + 1, b, hn, h1, h2 => by
    obtain ⟨k1, k2⟩ := past_yes h1 (show b < past s a by omega)
    refine t36a tab24 (ifP_intro (fun x => gAnd_intro (inR_nat k1) ⟨s.getD b 0, byte_eq, ifP_intro (fun y => ?_) fun y => ?_⟩) fun x => ?_)
    · rw [wrap_nat (by omega)]
      exact loop36 hok ha hs hk n (b + 1) (by omega) (by omega) (by omega)
    · rw [k2] at y; cases y
    · simp at x; omega
theorem c36 : COk cfg 36 skipC := by
  refine cok_heap hf36 fun vs h K ht => ?_
  obtain ⟨r, s, a, L, hid, hok, ha, hs, rfl, rfl, hk⟩ := ht
  exact t36 tab24 (loop36 hok ha hs hk _ a rfl (by omega) (past_le ha).1)
theorem c36t : COk cfg 36 skipT := by
  intro l h K ht
  refine c36 l h K ?_
  obtain ⟨s, a, L, hid, k, nm, l', hok, ha, hs, e1, e2, hk⟩ := ht
  exact ⟨rT k nm (encAs l'), s, a, L, hid, hok, ha, hs, e1, e2, hk⟩
end Go.Proofs.YtolmmodgneodbaaDoor
end

section
namespace Go.Proofs.YtolmmodgneodbaaDoor
open Go.Ai Go Go.Ai.Ex
set_option linter.unusedSimpArgs false
set_option linter.unusedVariables false
set_option maxRecDepth 100000
theorem hf37 : heapFn cfg 37 Tryd.f37 := ⟨by kernel_rfl, by kernel_rfl, by kernel_rfl, by kernel_rfl, by kernel_rfl, by kernel_rfl⟩
theorem hf39 : heapFn cfg 39 Tryd.f39 := ⟨by kernel_rfl, by kernel_rfl, by kernel_rfl, by kernel_rfl, by kernel_rfl, by kernel_rfl⟩
theorem hf35 : heapFn cfg 35 Tryd.f35 := ⟨by kernel_rfl, by kernel_rfl, by kernel_rfl, by kernel_rfl, by kernel_rfl, by kernel_rfl⟩
theorem hf53 : heapFn cfg 53 Tryd.f53 := ⟨by kernel_rfl, by kernel_rfl, by kernel_rfl, by kernel_rfl, by kernel_rfl, by kernel_rfl⟩
theorem hf52 : heapFn cfg 52 Tryd.f52 := ⟨by kernel_rfl, by kernel_rfl, by kernel_rfl, by kernel_rfl, by kernel_rfl, by kernel_rfl⟩
theorem hf63 : heapFn cfg 63 Tryd.f63 := ⟨by kernel_rfl, by kernel_rfl, by kernel_rfl, by kernel_rfl, by kernel_rfl, by kernel_rfl⟩

theorem blt_zero (b : Nat) : Nat.blt b 0 = false := rfl
theorem strip_int {v : AV} {k : IntKind} {n : Int} (h : strip 0 [] v = .int k n) : v = .int k n := by
  cases v <;> simp_all [strip, blt_zero]
theorem argsOf_fail (l : List AV) (p e : Int) (h : argsOf cfg 17 l = [.int .i64 p, .int .i64 e]) : l = [.int .i64 p, .int .i64 e] := by
  have hh : ((cfg.hprim 17).isSome || cfg.heap 17) = false := by kernel_rfl
  unfold argsOf at h
  rw [hh] at h
  simp only at h
  cases l with
  | nil => cases h
  | cons x l =>
    cases l with
    | nil => simp [strips] at h
    | cons y l =>
      cases l with
      | cons z l => simp [strips] at h
      | nil =>
        simp only [strips, List.cons.injEq, and_true] at h
        rw [strip_int h.1, strip_int h.2]
theorem c17 : COkP cfg pfE 17 failC := by
  intro l h K KP ht
  obtain ⟨p, e, hl, hk⟩ := ht
  have hl' := argsOf_fail l p e hl
  refine .inr ⟨1, (p, e), h, ?_, hk⟩
  simp only [PanK]
  refine .inl ⟨?_, trivial⟩
  rw [hl']
  rfl
theorem tabF : TabPOk cfg pfE (ctabP [] [(17, failC)]) := ctabP_ok ctab_nil (tabP_cons c17 tabP_nil)

theorem c37 : COkP cfg pfE 37 peekC := by
  refine cokP_heap hf37 fun vs h K KP ht => ?_
  obtain ⟨r, s, a, L, hid, tag, hok, ha, hs, rfl, rfl, h1, h2⟩ := ht
  have hN := fun g => hok (hX s (a : Nat) L hid ++ r).length g (by simp [hX]; omega)
  have hN1 := fun g => (hN g).1
  have hN2 := fun g => (hN g).2
  refine t37 tabF (ifP_intro (fun x => ⟨tag, 14, rfl, ?_⟩) fun x => gAnd_intro (inR_nat (by simp at x; omega)) ?_)
  · simp only [List.append_eq, List.nil_append, List.take_length, hN1, hN2]
    exact h1 (by simp at x; omega)
  · simp only [List.append_eq, List.nil_append, List.take_length, hN1, hN2, Int.toNat_natCast]
    exact h2 (by simp at x; omega)
theorem tab39 : TabPOk cfg pfE (ctabP [] [(17, failC), (37, peekC)]) := ctabP_ok ctab_nil (tabP_cons c17 (tabP_cons c37 tabP_nil))
theorem c39 : COkP cfg pfE 39 needC := by
  refine cokP_heap hf39 fun vs h K KP ht => ?_
  obtain ⟨r, s, a, L, hid, tag, is, hok, ha, hs, rfl, rfl, h1, h2, h3⟩ := ht
  have hN := fun g => hok (hX s (a : Nat) L hid ++ r).length g (by simp [hX]; omega)
  have hN1 := fun g => (hN g).1
  have hN2 := fun g => (hN g).2
  refine t39 tab39 ?_
  simp only [List.append_eq, List.nil_append, List.take_length, hN1, hN2]
  refine ⟨r, s, a, L, hid, tag, hok, ha, hs, rfl, rfl, fun x => h1 x, fun x => ifP_intro (fun y => ⟨a, 12, rfl, ?_⟩) fun y => ?_⟩
  · exact h2 x (by simpa using y)
  · rw [wrap_nat (by omega)]
    exact h3 x (by simpa using y)
theorem c39t : COkP cfg pfE 39 needT := by
  intro l h K KP ht
  refine c39 l h K KP ?_
  obtain ⟨s, a, L, hid, k, tag, nm, l', is, hok, ha, hs, e1, e2, hk⟩ := ht
  exact ⟨rT k nm (encAs l'), s, a, L, hid, tag, is, hok, ha, hs, e1, e2, hk⟩
theorem c39a : COkP cfg pfE 39 needA := by
  intro l h K KP ht
  refine c39 l h K KP ?_
  obtain ⟨s, a, L, hid, k, tag, nm, l', an, av, aa, is, hok, ha, hs, e1, e2, hk⟩ := ht
  exact ⟨rA k nm (encAs l') an av aa, s, a, L, hid, tag, is, hok, ha, hs, e1, e2, hk⟩
theorem tab35 : TabPOk cfg pfE (ctabP [(48, wordC), (50, fieldsC), (49, inC)] [(17, failC)]) := ctabP_ok (ctab_cons c48 (ctab_cons c50 (ctab_cons c49 ctab_nil))) (tabP_cons c17 tabP_nil)
theorem c35 : COkP cfg pfE 35 nameC := by
  refine cokP_heap hf35 fun vs h K KP ht => ?_
  obtain ⟨s, a, L, hid, tag, hok, ha, hs, rfl, rfl, h1, h2⟩ := ht
  have hL := fun g => (hok 6 g (by simp)).2
  refine t35 tab35 ⟨s, a, L, hid, hok, ha, hs, rfl, rfl, _, rfl, rfl, namesL, _, rfl, by decide, ?_⟩
  simp only [hL]
  refine ifP_intro (fun x => ⟨tag, 11, rfl, ?_⟩) fun x => ?_
  · exact h1 (by simpa [knownB] using x) _ L hid
  · exact h2 (by simpa [knownB] using x)

/-! Is an attribute's name there already? -/
theorem pureAs (l : List Att) : pureV.pureVss (encAs l) = true := by
  unfold encAs
  induction l with
  | nil => rfl
  | cons a r ih => simp only [List.map_cons, encA, pureV.pureVss, pureV.pureVs, pureV, ih, Bool.true_and]
theorem stripAs (n : Nat) (g : Hp) (l : List Att) : stripss n g (encAs l) = encAs l := stripss_pure _ _ _ (pureAs l)
theorem okA_es {k : Int} {nm : List UInt8} {es : List (List AV)} {an av : List UInt8} {aa : Int} {L : List (List AV)} (h : Keep.okX (rA k nm es an av aa) L) {n : Nat} (hn : 11 ≤ n) (g : Hp) : stripss n g es = es ∧ stripss n g L = L := by
  obtain ⟨h1, h2⟩ := h n g hn
  refine ⟨?_, h2⟩
  simp only [rA, rT, List.cons_append, List.nil_append, List.map_cons, List.cons.injEq] at h1
  have := h1.2.2.1
  simp only [stripB, strips, strip, Blk.mem.injEq, List.cons.injEq, AV.sl.injEq] at this
  exact this.2.2.2.1.2.1
theorem c53 : COk cfg 53 sameNC := by
  refine cok_heap hf53 fun vs h K ht => ?_
  obtain ⟨s, a, L, hid, k, nm, es, an, av, aa, b, hok, rfl, rfl, hk⟩ := ht
  have hN := fun g => okA_es hok (Nat.le_refl 11) g
  refine t53 noT ?_
  simp only [fun g => (hN g).1, fun g => (hN g).2]
  exact hk
theorem tab53 : TabOk cfg (ctab [(53, sameNC)]) := ctab_ok (ctab_cons c53 ctab_nil)
theorem loop63 {K : AV → Hp → Prop} {s : List UInt8} {a : Int} {L : List (List AV)} {hid k : Int} {nm : List UInt8} {l : List Att} {an av : List UInt8} {aa : Int} (hok : Keep.okX (rA k nm (encAs l) an av aa) L) (hl : l.length ≤ limE)
    (hk : ∀ z : Int, decide (z ≥ 0) = (l.any fun b => an == b.name) → K (.int .i64 z) (hAt s a L hid k nm (encAs l) an av aa)) :
    ∀ (n i : Nat), l.length - i = n → i ≤ l.length → (l.take i).any (fun b => an == b.name) = false → ToEnd cfg 63 (bodyOf Tryd.f63) (RetIn Tryd.prog Tryd.f63 11 K) [.code [0, 1, 0, 1], .block 0, .code [1, 1]] .normal [(0, true, .sl 3 (encAs l) (some 6)), (1, true, .fn (.func 53) [] [.ptr 10 0]), (7, true, .int .i64 l.length), (8, true, .int .i64 i)] (hAt s a L hid k nm (encAs l) an av aa)
  | 0, i, hn, hi, hp => by
    have hN := fun g => okA_es hok (Nat.le_refl 11) g
    refine t63a tab53 ?_
    simp only [fun g => (hN g).1, fun g => (hN g).2]
    refine ifP_intro (fun x => ?_) fun x => hk (-1) ?_
    · simp at x; omega
    · rw [List.take_of_length_le (by omega)] at hp; rw [hp]; rfl
  | n + 1, i, hn, hi, hp => by
    have hN := fun g => okA_es hok (Nat.le_refl 11) g
    have hlt : i < l.length := by omega
    refine t63a tab53 ?_
    simp only [fun g => (hN g).1, fun g => (hN g).2]
    refine ifP_intro (fun x => gAnd_intro ?_ ⟨l[i].name, l[i].value, l[i].at', getE_map _ l hlt, s, a, L, hid, k, nm, encAs l, an, av, aa, l[i], hok, rfl, rfl, ifP_intro (fun y => hk i ?_) fun y => ?_⟩) fun x => ?_
    · rw [show (encAs l).length = l.length by simp [encAs], inR_nat hlt]; rfl
    · rw [decide_eq_true (by omega)]
      exact (List.any_eq_true.2 ⟨l[i], List.getElem_mem hlt, y⟩).symm
    · rw [wrap_nat (by omega)]
      refine loop63 hok hl hk n (i + 1) (by omega) (by omega) ?_
      rw [List.take_succ_eq_append_getElem hlt, List.any_append, hp]
      simpa using y
    · simp at x; omega
theorem c63 : COk cfg 63 dupIC := by
  refine cok_heap hf63 fun vs h K ht => ?_
  obtain ⟨s, a, L, hid, k, nm, l, an, av, aa, hok, rfl, hl, rfl, hk⟩ := ht
  refine t63 tab53 ?_
  have := loop63 hok hl hk _ 0 rfl (by omega) rfl
  rw [show l.length = (encAs l).length by simp [encAs]] at this
  exact this
theorem c52 : COk cfg 52 dupC := by
  refine cok_heap hf52 fun vs h K ht => ?_
  obtain ⟨s, a, L, hid, k, nm, l, an, av, aa, hok, rfl, hl, rfl, hk⟩ := ht
  have hN := fun g => okA_es hok (Nat.le_refl 11) g
  refine t52 (ctab_ok (ctab_cons c63 ctab_nil)) ?_
  simp only [fun g => (hN g).1, fun g => (hN g).2]
  refine ⟨s, a, L, hid, k, nm, l, an, av, aa, hok, rfl, hl, rfl, fun z hz => ?_⟩
  rw [hz]
  exact hk
end Go.Proofs.YtolmmodgneodbaaDoor
end

section
namespace Go.Proofs.YtolmmodgneodbaaDoor
open Go.Ai Go Go.Ai.Ex
set_option maxRecDepth 100000
set_option linter.unusedVariables false
theorem t27g {K : AV → Hp → Prop} {s : List UInt8} {at' : Int} {L : List (List AV)} {hid : Int} {k fr : Int} (hT : TabOk cfg (ctab [])) (H :
    gAnd (cutOb (List.length s) (some fr) (some at')) (gAnd (tagOk [Blk.grow 0 6 32, Blk.mem 23 [AV.sl 6 [] (some 0)], Blk.mem 3 [AV.int IntKind.i64 0], Blk.mem 24 [AV.int IntKind.i64 0], Blk.grow (List.length L) 6 32, Blk.mem 45 [AV.str s, AV.int IntKind.i64 at', AV.sl 6 L (some 4), AV.int IntKind.i64 hid], Blk.grow 0 3 40, Blk.mem 32 [AV.int IntKind.i64 k, AV.str [], AV.sl 3 [] (some 6), AV.str (cutL s (some fr) (some at')), AV.int IntKind.i64 fr, AV.int IntKind.i64 at']] (List.length L) 6 32 (some 4) && true && true && true && decide ((List.length L + 1) * 80 ≤ 140737488355328) && true && true) (K (AV.tup []) [Blk.grow 0 6 32, Blk.mem 23 [AV.sl 6 [] (some 0)], Blk.mem 3 [AV.int IntKind.i64 0], Blk.mem 24 [AV.int IntKind.i64 0], Blk.grow (List.length L + 1) 6 32, Blk.mem 45 [AV.str s, AV.int IntKind.i64 at', AV.sl 6 (stripss 7 [Blk.grow 0 6 32, Blk.mem 23 [AV.sl 6 [] (some 0)], Blk.mem 3 [AV.int IntKind.i64 0], Blk.mem 24 [AV.int IntKind.i64 0], Blk.grow (List.length L + 1) 6 32, Blk.mem 45 [AV.str s, AV.int IntKind.i64 at', AV.sl 6 (L ++ [[AV.int IntKind.i64 k, AV.str [], AV.sl 3 [] (some 6), AV.str (cutL s (some fr) (some at')), AV.int IntKind.i64 fr, AV.int IntKind.i64 at']]) (some 4), AV.int IntKind.i64 hid], Blk.grow 0 3 40, Blk.mem 32 [AV.int IntKind.i64 k, AV.str [], AV.sl 3 [] (some 6), AV.str (cutL s (some fr) (some at')), AV.int IntKind.i64 fr, AV.int IntKind.i64 at']] (L ++ [[AV.int IntKind.i64 k, AV.str [], AV.sl 3 [] (some 6), AV.str (cutL s (some fr) (some at')), AV.int IntKind.i64 fr, AV.int IntKind.i64 at']])) (some 4), AV.int IntKind.i64 hid], Blk.grow 0 3 40]))) :
    ToEnd cfg 27 (bodyOf Tryd.f27) (RetIn Tryd.prog Tryd.f27 (7) K) ([.code []]) .normal ([(0, true, .ptr 5 0), (1, true, .agg [.int .i64 k, .str [], .sl 3 [] (some 6), .str [], .int .i64 0, .int .i64 0]), (2, true, .int .i64 fr)]) (hG s at' L hid) := by
  exact unr_ok hT 100000 _ _ _ _ (show unr cfg 27 (bodyOf Tryd.f27) (ctab []) ⟨[], []⟩ (RetIn Tryd.prog Tryd.f27 (7) K) 100000 ([.code []]) .normal ([(0, true, .ptr 5 0), (1, true, .agg [.int .i64 k, .str [], .sl 3 [] (some 6), .str [], .int .i64 0, .int .i64 0]), (2, true, .int .i64 fr)]) (hG s at' L hid) from unr_use H (by kernel_rfl))

theorem t27t {K : AV → Hp → Prop} {s : List UInt8} {at' : Int} {L : List (List AV)} {hid : Int} {k : Int} {nm : List UInt8} {es : List (List AV)} {fr : Int} (hT : TabOk cfg (ctab [])) (H :
    gAnd (cutOb (List.length s) (some fr) (some at')) (gAnd (tagOk [Blk.grow 0 6 32, Blk.mem 23 [AV.sl 6 [] (some 0)], Blk.mem 3 [AV.int IntKind.i64 0], Blk.mem 24 [AV.int IntKind.i64 0], Blk.grow (List.length L) 6 32, Blk.mem 45 [AV.str s, AV.int IntKind.i64 at', AV.sl 6 L (some 4), AV.int IntKind.i64 hid], Blk.grow (List.length es) 3 40, Blk.grow 0 3 40, Blk.mem 32 [AV.int IntKind.i64 k, AV.str nm, AV.sl 3 es (some 6), AV.str [], AV.int IntKind.i64 0, AV.int IntKind.i64 0], Blk.mem 32 [AV.int IntKind.i64 k, AV.str nm, AV.sl 3 es (some 6), AV.str (cutL s (some fr) (some at')), AV.int IntKind.i64 fr, AV.int IntKind.i64 at']] (List.length L) 6 32 (some 4) && true && true && true && decide ((List.length L + 1) * 80 ≤ 140737488355328) && true && true) (K (AV.tup []) [Blk.grow 0 6 32, Blk.mem 23 [AV.sl 6 [] (some 0)], Blk.mem 3 [AV.int IntKind.i64 0], Blk.mem 24 [AV.int IntKind.i64 0], Blk.grow (List.length L + 1) 6 32, Blk.mem 45 [AV.str s, AV.int IntKind.i64 at', AV.sl 6 (stripss 9 [Blk.grow 0 6 32, Blk.mem 23 [AV.sl 6 [] (some 0)], Blk.mem 3 [AV.int IntKind.i64 0], Blk.mem 24 [AV.int IntKind.i64 0], Blk.grow (List.length L + 1) 6 32, Blk.mem 45 [AV.str s, AV.int IntKind.i64 at', AV.sl 6 (L ++ [[AV.int IntKind.i64 k, AV.str nm, AV.sl 3 es (some 6), AV.str (cutL s (some fr) (some at')), AV.int IntKind.i64 fr, AV.int IntKind.i64 at']]) (some 4), AV.int IntKind.i64 hid], Blk.grow (List.length es) 3 40, Blk.grow 0 3 40, Blk.mem 32 [AV.int IntKind.i64 k, AV.str nm, AV.sl 3 es (some 6), AV.str [], AV.int IntKind.i64 0, AV.int IntKind.i64 0], Blk.mem 32 [AV.int IntKind.i64 k, AV.str nm, AV.sl 3 es (some 6), AV.str (cutL s (some fr) (some at')), AV.int IntKind.i64 fr, AV.int IntKind.i64 at']] (L ++ [[AV.int IntKind.i64 k, AV.str nm, AV.sl 3 es (some 6), AV.str (cutL s (some fr) (some at')), AV.int IntKind.i64 fr, AV.int IntKind.i64 at']])) (some 4), AV.int IntKind.i64 hid], Blk.grow (List.length es) 3 40, Blk.grow 0 3 40, Blk.mem 32 [AV.int IntKind.i64 k, AV.str nm, AV.sl 3 (stripss 9 [Blk.grow 0 6 32, Blk.mem 23 [AV.sl 6 [] (some 0)], Blk.mem 3 [AV.int IntKind.i64 0], Blk.mem 24 [AV.int IntKind.i64 0], Blk.grow (List.length L + 1) 6 32, Blk.mem 45 [AV.str s, AV.int IntKind.i64 at', AV.sl 6 (L ++ [[AV.int IntKind.i64 k, AV.str nm, AV.sl 3 es (some 6), AV.str (cutL s (some fr) (some at')), AV.int IntKind.i64 fr, AV.int IntKind.i64 at']]) (some 4), AV.int IntKind.i64 hid], Blk.grow (List.length es) 3 40, Blk.grow 0 3 40, Blk.mem 32 [AV.int IntKind.i64 k, AV.str nm, AV.sl 3 es (some 6), AV.str [], AV.int IntKind.i64 0, AV.int IntKind.i64 0], Blk.mem 32 [AV.int IntKind.i64 k, AV.str nm, AV.sl 3 es (some 6), AV.str (cutL s (some fr) (some at')), AV.int IntKind.i64 fr, AV.int IntKind.i64 at']] es) (some 6), AV.str [], AV.int IntKind.i64 0, AV.int IntKind.i64 0]]))) :
    ToEnd cfg 27 (bodyOf Tryd.f27) (RetIn Tryd.prog Tryd.f27 (9) K) ([.code []]) .normal ([(0, true, .ptr 5 0), (1, true, .agg [.int .i64 k, .str nm, .sl 3 es (some 6), .str [], .int .i64 0, .int .i64 0]), (2, true, .int .i64 fr)]) (hTg s at' L hid k nm es) := by
  exact unr_ok hT 100000 _ _ _ _ (show unr cfg 27 (bodyOf Tryd.f27) (ctab []) ⟨[], []⟩ (RetIn Tryd.prog Tryd.f27 (9) K) 100000 ([.code []]) .normal ([(0, true, .ptr 5 0), (1, true, .agg [.int .i64 k, .str nm, .sl 3 es (some 6), .str [], .int .i64 0, .int .i64 0]), (2, true, .int .i64 fr)]) (hTg s at' L hid k nm es) from unr_use H (by kernel_rfl))

theorem t27r {K : AV → Hp → Prop} {s : List UInt8} {at' : Int} {L : List (List AV)} {hid : Int} {k : Int} {nm : List UInt8} {es : List (List AV)} {fr : Int} (hT : TabOk cfg (ctab [])) (H :
    gAnd (cutOb (List.length s) (some fr) (some at')) (gAnd (tagOk [Blk.grow 0 6 32, Blk.mem 23 [AV.sl 6 [] (some 0)], Blk.mem 3 [AV.int IntKind.i64 0], Blk.mem 24 [AV.int IntKind.i64 0], Blk.grow (List.length L) 6 32, Blk.mem 45 [AV.str s, AV.int IntKind.i64 at', AV.sl 6 L (some 4), AV.int IntKind.i64 hid], Blk.grow (List.length es) 3 40, Blk.grow 0 3 40, Blk.mem 32 [AV.int IntKind.i64 k, AV.str nm, AV.sl 3 es (some 6), AV.str [], AV.int IntKind.i64 0, AV.int IntKind.i64 0], Blk.grow 0 3 40, Blk.mem 32 [AV.int IntKind.i64 7, AV.str [], AV.sl 3 [] (some 9), AV.str (cutL s (some fr) (some at')), AV.int IntKind.i64 fr, AV.int IntKind.i64 at']] (List.length L) 6 32 (some 4) && true && true && true && decide ((List.length L + 1) * 80 ≤ 140737488355328) && true && true) (K (AV.tup []) [Blk.grow 0 6 32, Blk.mem 23 [AV.sl 6 [] (some 0)], Blk.mem 3 [AV.int IntKind.i64 0], Blk.mem 24 [AV.int IntKind.i64 0], Blk.grow (List.length L + 1) 6 32, Blk.mem 45 [AV.str s, AV.int IntKind.i64 at', AV.sl 6 (stripss 10 [Blk.grow 0 6 32, Blk.mem 23 [AV.sl 6 [] (some 0)], Blk.mem 3 [AV.int IntKind.i64 0], Blk.mem 24 [AV.int IntKind.i64 0], Blk.grow (List.length L + 1) 6 32, Blk.mem 45 [AV.str s, AV.int IntKind.i64 at', AV.sl 6 (L ++ [[AV.int IntKind.i64 7, AV.str [], AV.sl 3 [] (some 9), AV.str (cutL s (some fr) (some at')), AV.int IntKind.i64 fr, AV.int IntKind.i64 at']]) (some 4), AV.int IntKind.i64 hid], Blk.grow (List.length es) 3 40, Blk.grow 0 3 40, Blk.mem 32 [AV.int IntKind.i64 k, AV.str nm, AV.sl 3 es (some 6), AV.str [], AV.int IntKind.i64 0, AV.int IntKind.i64 0], Blk.grow 0 3 40, Blk.mem 32 [AV.int IntKind.i64 7, AV.str [], AV.sl 3 [] (some 9), AV.str (cutL s (some fr) (some at')), AV.int IntKind.i64 fr, AV.int IntKind.i64 at']] (L ++ [[AV.int IntKind.i64 7, AV.str [], AV.sl 3 [] (some 9), AV.str (cutL s (some fr) (some at')), AV.int IntKind.i64 fr, AV.int IntKind.i64 at']])) (some 4), AV.int IntKind.i64 hid], Blk.grow (List.length es) 3 40, Blk.grow 0 3 40, Blk.mem 32 [AV.int IntKind.i64 k, AV.str nm, AV.sl 3 (stripss 10 [Blk.grow 0 6 32, Blk.mem 23 [AV.sl 6 [] (some 0)], Blk.mem 3 [AV.int IntKind.i64 0], Blk.mem 24 [AV.int IntKind.i64 0], Blk.grow (List.length L + 1) 6 32, Blk.mem 45 [AV.str s, AV.int IntKind.i64 at', AV.sl 6 (L ++ [[AV.int IntKind.i64 7, AV.str [], AV.sl 3 [] (some 9), AV.str (cutL s (some fr) (some at')), AV.int IntKind.i64 fr, AV.int IntKind.i64 at']]) (some 4), AV.int IntKind.i64 hid], Blk.grow (List.length es) 3 40, Blk.grow 0 3 40, Blk.mem 32 [AV.int IntKind.i64 k, AV.str nm, AV.sl 3 es (some 6), AV.str [], AV.int IntKind.i64 0, AV.int IntKind.i64 0], Blk.grow 0 3 40, Blk.mem 32 [AV.int IntKind.i64 7, AV.str [], AV.sl 3 [] (some 9), AV.str (cutL s (some fr) (some at')), AV.int IntKind.i64 fr, AV.int IntKind.i64 at']] es) (some 6), AV.str [], AV.int IntKind.i64 0, AV.int IntKind.i64 0], Blk.grow 0 3 40]))) :
    ToEnd cfg 27 (bodyOf Tryd.f27) (RetIn Tryd.prog Tryd.f27 (10) K) ([.code []]) .normal ([(0, true, .ptr 5 0), (1, true, .agg [.int .i64 7, .str [], .sl 3 [] (some 9), .str [], .int .i64 0, .int .i64 0]), (2, true, .int .i64 fr)]) (hTG s at' L hid k nm es) := by
  exact unr_ok hT 100000 _ _ _ _ (show unr cfg 27 (bodyOf Tryd.f27) (ctab []) ⟨[], []⟩ (RetIn Tryd.prog Tryd.f27 (10) K) 100000 ([.code []]) .normal ([(0, true, .ptr 5 0), (1, true, .agg [.int .i64 7, .str [], .sl 3 [] (some 9), .str [], .int .i64 0, .int .i64 0]), (2, true, .int .i64 fr)]) (hTG s at' L hid k nm es) from unr_use H (by kernel_rfl))

theorem t26 {K : AV → Hp → Prop} {s : List UInt8} {at' : Int} {L : List (List AV)} {hid : Int}  (hT : TabOk cfg (ctab [(27, addGC)])) (H :
    ∃ (s1 : List UInt8), ∃ (a2 : Nat), ∃ (fr3 : Nat), ∃ (L4 : List (List AV)), ∃ (hid5 : Int), ∃ (k6 : Int), Keep.okX [Blk.grow 0 3 40] L4 ∧ a2 ≤ List.length s1 ∧ List.length s1 ≤ 1000000 ∧ fr3 ≤ a2 ∧ List.length L4 ≤ 1000000 ∧ [AV.ptr 5 0, AV.agg [AV.int IntKind.i64 6, AV.str [], AV.sl 3 [] (some 6), AV.str [], AV.int IntKind.i64 0, AV.int IntKind.i64 0], AV.int IntKind.i64 at'] = [AV.ptr 5 0, AV.agg [AV.int IntKind.i64 k6, AV.str [], AV.sl 3 [] (some 6), AV.str [], AV.int IntKind.i64 0, AV.int IntKind.i64 0], AV.int IntKind.i64 (↑fr3 : Int)] ∧ [Blk.grow 0 6 32, Blk.mem 23 [AV.sl 6 [] (some 0)], Blk.mem 3 [AV.int IntKind.i64 0], Blk.mem 24 [AV.int IntKind.i64 0], Blk.grow (List.length L) 6 32, Blk.mem 45 [AV.str s, AV.int IntKind.i64 (IntKind.wrap IntKind.i64 (at' + 3)), AV.sl 6 L (some 4), AV.int IntKind.i64 (-1)], Blk.grow 0 3 40] = [Blk.grow 0 6 32, Blk.mem 23 [AV.sl 6 [] (some 0)], Blk.mem 3 [AV.int IntKind.i64 0], Blk.mem 24 [AV.int IntKind.i64 0], Blk.grow (List.length L4) 6 32, Blk.mem 45 [AV.str s1, AV.int IntKind.i64 (↑a2 : Int), AV.sl 6 L4 (some 4), AV.int IntKind.i64 hid5], Blk.grow 0 3 40] ∧ K (AV.tup []) [Blk.grow 0 6 32, Blk.mem 23 [AV.sl 6 [] (some 0)], Blk.mem 3 [AV.int IntKind.i64 0], Blk.mem 24 [AV.int IntKind.i64 0], Blk.grow (List.length (L4 ++ [row k6 [] [] (some 6) (cut s1 fr3 a2) (↑fr3 : Int) (↑a2 : Int)])) 6 32, Blk.mem 45 [AV.str s1, AV.int IntKind.i64 (↑a2 : Int), AV.sl 6 (stripss 6 [Blk.grow 0 6 32, Blk.mem 23 [AV.sl 6 [] (some 0)], Blk.mem 3 [AV.int IntKind.i64 0], Blk.mem 24 [AV.int IntKind.i64 0], Blk.grow (List.length (L4 ++ [row k6 [] [] (some 6) (cut s1 fr3 a2) (↑fr3 : Int) (↑a2 : Int)])) 6 32, Blk.mem 45 [AV.str s1, AV.int IntKind.i64 (↑a2 : Int), AV.sl 6 (L4 ++ [row k6 [] [] (some 6) (cut s1 fr3 a2) (↑fr3 : Int) (↑a2 : Int)]) (some 4), AV.int IntKind.i64 hid5], Blk.grow 0 3 40] (L4 ++ [row k6 [] [] (some 6) (cut s1 fr3 a2) (↑fr3 : Int) (↑a2 : Int)])) (some 4), AV.int IntKind.i64 hid5]]) :
    ToEnd cfg 26 (bodyOf Tryd.f26) (RetIn Tryd.prog Tryd.f26 (6) K) ([.code []]) .normal ([(0, true, .ptr 5 0)]) (hX s at' L hid) := by
  exact unr_ok hT 100000 _ _ _ _ (show unr cfg 26 (bodyOf Tryd.f26) (ctab [(27, addGC)]) ⟨[], []⟩ (RetIn Tryd.prog Tryd.f26 (6) K) 100000 ([.code []]) .normal ([(0, true, .ptr 5 0)]) (hX s at' L hid) from unr_use H (by kernel_rfl))

theorem t16 {K : AV → Hp → Prop} {s : List UInt8} {at' : Int} {L : List (List AV)} {hid : Int} {fr : Int} (hT : TabOk cfg (ctab [(27, addGC)])) (H :
    ifP (decide (fr < at')) (∃ (s1 : List UInt8), ∃ (a2 : Nat), ∃ (fr3 : Nat), ∃ (L4 : List (List AV)), ∃ (hid5 : Int), ∃ (k6 : Int), Keep.okX [Blk.grow 0 3 40] L4 ∧ a2 ≤ List.length s1 ∧ List.length s1 ≤ 1000000 ∧ fr3 ≤ a2 ∧ List.length L4 ≤ 1000000 ∧ [AV.ptr 5 0, AV.agg [AV.int IntKind.i64 1, AV.str [], AV.sl 3 [] (some 6), AV.str [], AV.int IntKind.i64 0, AV.int IntKind.i64 0], AV.int IntKind.i64 fr] = [AV.ptr 5 0, AV.agg [AV.int IntKind.i64 k6, AV.str [], AV.sl 3 [] (some 6), AV.str [], AV.int IntKind.i64 0, AV.int IntKind.i64 0], AV.int IntKind.i64 (↑fr3 : Int)] ∧ [Blk.grow 0 6 32, Blk.mem 23 [AV.sl 6 [] (some 0)], Blk.mem 3 [AV.int IntKind.i64 0], Blk.mem 24 [AV.int IntKind.i64 0], Blk.grow (List.length L) 6 32, Blk.mem 45 [AV.str s, AV.int IntKind.i64 at', AV.sl 6 L (some 4), AV.int IntKind.i64 hid], Blk.grow 0 3 40] = [Blk.grow 0 6 32, Blk.mem 23 [AV.sl 6 [] (some 0)], Blk.mem 3 [AV.int IntKind.i64 0], Blk.mem 24 [AV.int IntKind.i64 0], Blk.grow (List.length L4) 6 32, Blk.mem 45 [AV.str s1, AV.int IntKind.i64 (↑a2 : Int), AV.sl 6 L4 (some 4), AV.int IntKind.i64 hid5], Blk.grow 0 3 40] ∧ K (AV.tup []) [Blk.grow 0 6 32, Blk.mem 23 [AV.sl 6 [] (some 0)], Blk.mem 3 [AV.int IntKind.i64 0], Blk.mem 24 [AV.int IntKind.i64 0], Blk.grow (List.length (L4 ++ [row k6 [] [] (some 6) (cut s1 fr3 a2) (↑fr3 : Int) (↑a2 : Int)])) 6 32, Blk.mem 45 [AV.str s1, AV.int IntKind.i64 (↑a2 : Int), AV.sl 6 (stripss 6 [Blk.grow 0 6 32, Blk.mem 23 [AV.sl 6 [] (some 0)], Blk.mem 3 [AV.int IntKind.i64 0], Blk.mem 24 [AV.int IntKind.i64 0], Blk.grow (List.length (L4 ++ [row k6 [] [] (some 6) (cut s1 fr3 a2) (↑fr3 : Int) (↑a2 : Int)])) 6 32, Blk.mem 45 [AV.str s1, AV.int IntKind.i64 (↑a2 : Int), AV.sl 6 (L4 ++ [row k6 [] [] (some 6) (cut s1 fr3 a2) (↑fr3 : Int) (↑a2 : Int)]) (some 4), AV.int IntKind.i64 hid5], Blk.grow 0 3 40] (L4 ++ [row k6 [] [] (some 6) (cut s1 fr3 a2) (↑fr3 : Int) (↑a2 : Int)])) (some 4), AV.int IntKind.i64 hid5]]) (K (AV.tup []) [Blk.grow 0 6 32, Blk.mem 23 [AV.sl 6 [] (some 0)], Blk.mem 3 [AV.int IntKind.i64 0], Blk.mem 24 [AV.int IntKind.i64 0], Blk.grow (List.length L) 6 32, Blk.mem 45 [AV.str s, AV.int IntKind.i64 at', AV.sl 6 (stripss 6 [Blk.grow 0 6 32, Blk.mem 23 [AV.sl 6 [] (some 0)], Blk.mem 3 [AV.int IntKind.i64 0], Blk.mem 24 [AV.int IntKind.i64 0], Blk.grow (List.length L) 6 32, Blk.mem 45 [AV.str s, AV.int IntKind.i64 at', AV.sl 6 L (some 4), AV.int IntKind.i64 hid]] L) (some 4), AV.int IntKind.i64 hid]])) :
    ToEnd cfg 16 (bodyOf Tryd.f16) (RetIn Tryd.prog Tryd.f16 (6) K) ([.code []]) .normal ([(0, true, .ptr 5 0), (1, true, .int .i64 fr)]) (hX s at' L hid) := by
  exact unr_ok hT 100000 _ _ _ _ (show unr cfg 16 (bodyOf Tryd.f16) (ctab [(27, addGC)]) ⟨[], []⟩ (RetIn Tryd.prog Tryd.f16 (6) K) 100000 ([.code []]) .normal ([(0, true, .ptr 5 0), (1, true, .int .i64 fr)]) (hX s at' L hid) from unr_use H (by kernel_rfl))

theorem t15 {K : AV → Hp → Prop} {s : List UInt8} {at' : Int} {L : List (List AV)} {hid : Int}  (hT : TabOk cfg (ctab [(21, prefC), (24, blankC)])) (H :
    gAnd (cutOb (List.length s) (some at') none)
  (∃ (s1 : List UInt8),
    ∃ (x2 : List UInt8),
      [AV.str (cutL s (some at') none), AV.str [60, 101, 115, 105, 58]] = [AV.str s1, AV.str x2] ∧
        ifP (List.isPrefixOf x2 s1) (K (AV.fn (Fn.func 22) [AV.ptr 5 0] []) [Blk.grow 0 6 32, Blk.mem 23 [AV.sl 6 [] (some 0)], Blk.mem 3 [AV.int IntKind.i64 0], Blk.mem 24 [AV.int IntKind.i64 0], Blk.grow (List.length L) 6 32, Blk.mem 45 [AV.str s, AV.int IntKind.i64 at', AV.sl 6 (stripss 6 [Blk.grow 0 6 32, Blk.mem 23 [AV.sl 6 [] (some 0)], Blk.mem 3 [AV.int IntKind.i64 0], Blk.mem 24 [AV.int IntKind.i64 0], Blk.grow (List.length L) 6 32, Blk.mem 45 [AV.str s, AV.int IntKind.i64 at', AV.sl 6 L (some 4), AV.int IntKind.i64 hid]] L) (some 4), AV.int IntKind.i64 hid]])
          (∃ (s3 : List UInt8),
            ∃ (x4 : List UInt8),
              [AV.str (cutL s (some at') none), AV.str [60, 47, 101, 115, 105, 58]] = [AV.str s3, AV.str x4] ∧
                ifP (List.isPrefixOf x4 s3) (K (AV.fn (Fn.func 23) [AV.ptr 5 0] []) [Blk.grow 0 6 32, Blk.mem 23 [AV.sl 6 [] (some 0)], Blk.mem 3 [AV.int IntKind.i64 0], Blk.mem 24 [AV.int IntKind.i64 0], Blk.grow (List.length L) 6 32, Blk.mem 45 [AV.str s, AV.int IntKind.i64 at', AV.sl 6 (stripss 6 [Blk.grow 0 6 32, Blk.mem 23 [AV.sl 6 [] (some 0)], Blk.mem 3 [AV.int IntKind.i64 0], Blk.mem 24 [AV.int IntKind.i64 0], Blk.grow (List.length L) 6 32, Blk.mem 45 [AV.str s, AV.int IntKind.i64 at', AV.sl 6 L (some 4), AV.int IntKind.i64 hid]] L) (some 4), AV.int IntKind.i64 hid]])
                  (∃ (s5 : List UInt8),
                    ∃ (x6 : List UInt8),
                      [AV.str (cutL s (some at') none), AV.str [60, 33, 45, 45, 101, 115, 105]] = [AV.str s5, AV.str x6] ∧
                        ifP (List.isPrefixOf x6 s5)
                          (ifP (decide ((↑(List.length (cutL s (some at') none)) : Int) > 7)) (gAnd (inR 7 (List.length (cutL s (some at') none))) (∃ (c7 : UInt8), [AV.int IntKind.u8 (↑(UInt8.toNat (List.getD (cutL s (some at') none) 7 0)) : Int)] = [AV.int IntKind.u8 (↑(UInt8.toNat c7) : Int)] ∧ ifP (blB c7) (K (AV.fn (Fn.func 25) [AV.ptr 5 0] []) [Blk.grow 0 6 32, Blk.mem 23 [AV.sl 6 [] (some 0)], Blk.mem 3 [AV.int IntKind.i64 0], Blk.mem 24 [AV.int IntKind.i64 0], Blk.grow (List.length L) 6 32, Blk.mem 45 [AV.str s, AV.int IntKind.i64 at', AV.sl 6 (stripss 6 [Blk.grow 0 6 32, Blk.mem 23 [AV.sl 6 [] (some 0)], Blk.mem 3 [AV.int IntKind.i64 0], Blk.mem 24 [AV.int IntKind.i64 0], Blk.grow (List.length L) 6 32, Blk.mem 45 [AV.str s, AV.int IntKind.i64 at', AV.sl 6 L (some 4), AV.int IntKind.i64 hid]] L) (some 4), AV.int IntKind.i64 hid]]) (∃ (s8 : List UInt8), ∃ (x9 : List UInt8), [AV.str (cutL s (some at') none), AV.str [45, 45, 62]] = [AV.str s8, AV.str x9] ∧ ifP (List.isPrefixOf x9 s8) (ifP (decide (hid ≥ 0)) (K (AV.fn (Fn.func 26) [AV.ptr 5 0] []) [Blk.grow 0 6 32, Blk.mem 23 [AV.sl 6 [] (some 0)], Blk.mem 3 [AV.int IntKind.i64 0], Blk.mem 24 [AV.int IntKind.i64 0], Blk.grow (List.length L) 6 32, Blk.mem 45 [AV.str s, AV.int IntKind.i64 at', AV.sl 6 (stripss 6 [Blk.grow 0 6 32, Blk.mem 23 [AV.sl 6 [] (some 0)], Blk.mem 3 [AV.int IntKind.i64 0], Blk.mem 24 [AV.int IntKind.i64 0], Blk.grow (List.length L) 6 32, Blk.mem 45 [AV.str s, AV.int IntKind.i64 at', AV.sl 6 L (some 4), AV.int IntKind.i64 hid]] L) (some 4), AV.int IntKind.i64 hid]]) (K AV.nilf [Blk.grow 0 6 32, Blk.mem 23 [AV.sl 6 [] (some 0)], Blk.mem 3 [AV.int IntKind.i64 0], Blk.mem 24 [AV.int IntKind.i64 0], Blk.grow (List.length L) 6 32, Blk.mem 45 [AV.str s, AV.int IntKind.i64 at', AV.sl 6 (stripss 6 [Blk.grow 0 6 32, Blk.mem 23 [AV.sl 6 [] (some 0)], Blk.mem 3 [AV.int IntKind.i64 0], Blk.mem 24 [AV.int IntKind.i64 0], Blk.grow (List.length L) 6 32, Blk.mem 45 [AV.str s, AV.int IntKind.i64 at', AV.sl 6 L (some 4), AV.int IntKind.i64 hid]] L) (some 4), AV.int IntKind.i64 hid]])) (K AV.nilf [Blk.grow 0 6 32, Blk.mem 23 [AV.sl 6 [] (some 0)], Blk.mem 3 [AV.int IntKind.i64 0], Blk.mem 24 [AV.int IntKind.i64 0], Blk.grow (List.length L) 6 32, Blk.mem 45 [AV.str s, AV.int IntKind.i64 at', AV.sl 6 (stripss 6 [Blk.grow 0 6 32, Blk.mem 23 [AV.sl 6 [] (some 0)], Blk.mem 3 [AV.int IntKind.i64 0], Blk.mem 24 [AV.int IntKind.i64 0], Blk.grow (List.length L) 6 32, Blk.mem 45 [AV.str s, AV.int IntKind.i64 at', AV.sl 6 L (some 4), AV.int IntKind.i64 hid]] L) (some 4), AV.int IntKind.i64 hid]]))))
                            (∃ (s10 : List UInt8), ∃ (x11 : List UInt8), [AV.str (cutL s (some at') none), AV.str [45, 45, 62]] = [AV.str s10, AV.str x11] ∧ ifP (List.isPrefixOf x11 s10) (ifP (decide (hid ≥ 0)) (K (AV.fn (Fn.func 26) [AV.ptr 5 0] []) [Blk.grow 0 6 32, Blk.mem 23 [AV.sl 6 [] (some 0)], Blk.mem 3 [AV.int IntKind.i64 0], Blk.mem 24 [AV.int IntKind.i64 0], Blk.grow (List.length L) 6 32, Blk.mem 45 [AV.str s, AV.int IntKind.i64 at', AV.sl 6 (stripss 6 [Blk.grow 0 6 32, Blk.mem 23 [AV.sl 6 [] (some 0)], Blk.mem 3 [AV.int IntKind.i64 0], Blk.mem 24 [AV.int IntKind.i64 0], Blk.grow (List.length L) 6 32, Blk.mem 45 [AV.str s, AV.int IntKind.i64 at', AV.sl 6 L (some 4), AV.int IntKind.i64 hid]] L) (some 4), AV.int IntKind.i64 hid]]) (K AV.nilf [Blk.grow 0 6 32, Blk.mem 23 [AV.sl 6 [] (some 0)], Blk.mem 3 [AV.int IntKind.i64 0], Blk.mem 24 [AV.int IntKind.i64 0], Blk.grow (List.length L) 6 32, Blk.mem 45 [AV.str s, AV.int IntKind.i64 at', AV.sl 6 (stripss 6 [Blk.grow 0 6 32, Blk.mem 23 [AV.sl 6 [] (some 0)], Blk.mem 3 [AV.int IntKind.i64 0], Blk.mem 24 [AV.int IntKind.i64 0], Blk.grow (List.length L) 6 32, Blk.mem 45 [AV.str s, AV.int IntKind.i64 at', AV.sl 6 L (some 4), AV.int IntKind.i64 hid]] L) (some 4), AV.int IntKind.i64 hid]])) (K AV.nilf [Blk.grow 0 6 32, Blk.mem 23 [AV.sl 6 [] (some 0)], Blk.mem 3 [AV.int IntKind.i64 0], Blk.mem 24 [AV.int IntKind.i64 0], Blk.grow (List.length L) 6 32, Blk.mem 45 [AV.str s, AV.int IntKind.i64 at', AV.sl 6 (stripss 6 [Blk.grow 0 6 32, Blk.mem 23 [AV.sl 6 [] (some 0)], Blk.mem 3 [AV.int IntKind.i64 0], Blk.mem 24 [AV.int IntKind.i64 0], Blk.grow (List.length L) 6 32, Blk.mem 45 [AV.str s, AV.int IntKind.i64 at', AV.sl 6 L (some 4), AV.int IntKind.i64 hid]] L) (some 4), AV.int IntKind.i64 hid]])))
                          (∃ (s12 : List UInt8), ∃ (x13 : List UInt8), [AV.str (cutL s (some at') none), AV.str [45, 45, 62]] = [AV.str s12, AV.str x13] ∧ ifP (List.isPrefixOf x13 s12) (ifP (decide (hid ≥ 0)) (K (AV.fn (Fn.func 26) [AV.ptr 5 0] []) [Blk.grow 0 6 32, Blk.mem 23 [AV.sl 6 [] (some 0)], Blk.mem 3 [AV.int IntKind.i64 0], Blk.mem 24 [AV.int IntKind.i64 0], Blk.grow (List.length L) 6 32, Blk.mem 45 [AV.str s, AV.int IntKind.i64 at', AV.sl 6 (stripss 6 [Blk.grow 0 6 32, Blk.mem 23 [AV.sl 6 [] (some 0)], Blk.mem 3 [AV.int IntKind.i64 0], Blk.mem 24 [AV.int IntKind.i64 0], Blk.grow (List.length L) 6 32, Blk.mem 45 [AV.str s, AV.int IntKind.i64 at', AV.sl 6 L (some 4), AV.int IntKind.i64 hid]] L) (some 4), AV.int IntKind.i64 hid]]) (K AV.nilf [Blk.grow 0 6 32, Blk.mem 23 [AV.sl 6 [] (some 0)], Blk.mem 3 [AV.int IntKind.i64 0], Blk.mem 24 [AV.int IntKind.i64 0], Blk.grow (List.length L) 6 32, Blk.mem 45 [AV.str s, AV.int IntKind.i64 at', AV.sl 6 (stripss 6 [Blk.grow 0 6 32, Blk.mem 23 [AV.sl 6 [] (some 0)], Blk.mem 3 [AV.int IntKind.i64 0], Blk.mem 24 [AV.int IntKind.i64 0], Blk.grow (List.length L) 6 32, Blk.mem 45 [AV.str s, AV.int IntKind.i64 at', AV.sl 6 L (some 4), AV.int IntKind.i64 hid]] L) (some 4), AV.int IntKind.i64 hid]])) (K AV.nilf [Blk.grow 0 6 32, Blk.mem 23 [AV.sl 6 [] (some 0)], Blk.mem 3 [AV.int IntKind.i64 0], Blk.mem 24 [AV.int IntKind.i64 0], Blk.grow (List.length L) 6 32, Blk.mem 45 [AV.str s, AV.int IntKind.i64 at', AV.sl 6 (stripss 6 [Blk.grow 0 6 32, Blk.mem 23 [AV.sl 6 [] (some 0)], Blk.mem 3 [AV.int IntKind.i64 0], Blk.mem 24 [AV.int IntKind.i64 0], Blk.grow (List.length L) 6 32, Blk.mem 45 [AV.str s, AV.int IntKind.i64 at', AV.sl 6 L (some 4), AV.int IntKind.i64 hid]] L) (some 4), AV.int IntKind.i64 hid]])))))) :
    ToEnd cfg 15 (bodyOf Tryd.f15) (RetIn Tryd.prog Tryd.f15 (6) K) ([.code []]) .normal ([(0, true, .ptr 5 0)]) (hX s at' L hid) := by
  exact unr_ok hT 100000 _ _ _ _ (show unr cfg 15 (bodyOf Tryd.f15) (ctab [(21, prefC), (24, blankC)]) ⟨[], []⟩ (RetIn Tryd.prog Tryd.f15 (6) K) 100000 ([.code []]) .normal ([(0, true, .ptr 5 0)]) (hX s at' L hid) from unr_use H (by kernel_rfl))

end Go.Proofs.YtolmmodgneodbaaDoor
end

section
namespace Go.Proofs.YtolmmodgneodbaaDoor
open Go.Ai Go Go.Ai.Ex
set_option linter.unusedSimpArgs false
set_option linter.unusedVariables false
set_option maxRecDepth 100000
theorem hf27 : heapFn cfg 27 Tryd.f27 := ⟨by kernel_rfl, by kernel_rfl, by kernel_rfl, by kernel_rfl, by kernel_rfl, by kernel_rfl⟩
theorem hf26 : heapFn cfg 26 Tryd.f26 := ⟨by kernel_rfl, by kernel_rfl, by kernel_rfl, by kernel_rfl, by kernel_rfl, by kernel_rfl⟩
theorem hf16 : heapFn cfg 16 Tryd.f16 := ⟨by kernel_rfl, by kernel_rfl, by kernel_rfl, by kernel_rfl, by kernel_rfl, by kernel_rfl⟩
theorem hf15 : heapFn cfg 15 Tryd.f15 := ⟨by kernel_rfl, by kernel_rfl, by kernel_rfl, by kernel_rfl, by kernel_rfl, by kernel_rfl⟩

theorem stripss_app (n : Nat) (g : Hp) : ∀ (a b : List (List AV)), stripss n g (a ++ b) = stripss n g a ++ stripss n g b
  | [], b => rfl
  | x :: a, b => by rw [List.cons_append, stripss, stripss, stripss_app n g a b]; rfl
theorem pureTs (l : List Tok) : pureV.pureVss (encTs l) = true := by
  unfold encTs
  induction l with
  | nil => rfl
  | cons a r ih => simp only [List.map_cons, encT, pureV.pureVss, pureV.pureVs, pureV, ih, pureAs, Option.isNone_none, Bool.true_and, Bool.and_true]
theorem stripTs (n : Nat) (g : Hp) (l : List Tok) : stripss n g (encTs l) = encTs l := stripss_pure _ _ _ (pureTs l)
theorem ok0 (l : List Tok) : Keep.okX [] (encTs l) := fun n g _ => ⟨rfl, stripTs n g l⟩
theorem okG (l : List Tok) : Keep.okX [.grow 0 3 40] (encTs l) := fun n g _ => ⟨rfl, stripTs n g l⟩
theorem blt6 {n : Nat} (h : 9 ≤ n) : Nat.blt 6 n = true := Nat.ble_eq_true_of_le (by omega)
/-- A row, stripped. -/
theorem strip_row {n : Nat} (g : Hp) {L : List (List AV)} (hL : stripss n g L = L) {k fr to : Int} {nm t : List UInt8} {es : List (List AV)} (he : stripss n g es = es) {id : Nat} (hi : Nat.blt id n = true) :
    stripss n g (L ++ [[.int .i64 k, .str nm, .sl 3 es (some id), .str t, .int .i64 fr, .int .i64 to]]) = L ++ [[.int .i64 k, .str nm, .sl 3 es (some id), .str t, .int .i64 fr, .int .i64 to]] := by
  rw [stripss_app, hL]
  simp only [stripss, strips, strip, he, hi, cond_true]
theorem strip_row0 {n : Nat} (g : Hp) {L : List (List AV)} (hL : stripss n g L = L) {k fr to : Int} {nm t : List UInt8} {es : List (List AV)} (he : stripss n g es = es) {id : Nat} (hi : Nat.blt id n = false) :
    stripss n g (L ++ [[.int .i64 k, .str nm, .sl 3 es (some id), .str t, .int .i64 fr, .int .i64 to]]) = L ++ [[.int .i64 k, .str nm, .sl 3 es none, .str t, .int .i64 fr, .int .i64 to]] := by
  rw [stripss_app, hL]
  simp only [stripss, strips, strip, he, hi, cond_false]
theorem len_app {α : Type} (L : List α) (x : α) : (L ++ [x]).length = L.length + 1 := by simp
theorem tag_ok {h : Hp} {n : Nat} (e : h[4]? = some (.grow n 6 32)) : tagOk h n 6 32 (some 4) = true := by
  simp only [tagOk, e, Nat.beq_refl, Bool.and_self]

theorem c27g : COk cfg 27 addGC := by
  refine cok_heap hf27 fun vs h K ht => ?_
  obtain ⟨s, a, fr, L, hid, k, hok, ha, hs, hf, hl, rfl, rfl, hk⟩ := ht
  obtain ⟨e1, e2⟩ := cut_cutL s hf ha
  have hL := fun g => (hok 7 g (Nat.le_refl _)).2
  refine t27g noT (gAnd_intro e2 (gAnd_intro ?_ ?_))
  · rw [tag_ok rfl, decide_eq_true (by unfold limE at hl; omega)]; rfl
  · rw [strip_row _ (hL _) rfl rfl, e1]
    unfold hG at hk
    rw [len_app] at hk
    exact hk
theorem c27t : COk cfg 27 addTC := by
  refine cok_heap hf27 fun vs h K ht => ?_
  obtain ⟨s, a, fr, L, hid, k, nm, l, hok, ha, hs, hf, hl, rfl, rfl, hk⟩ := ht
  obtain ⟨e1, e2⟩ := cut_cutL s hf ha
  have hL := fun g => (hok 9 g (Nat.le_refl _)).2
  refine t27t noT (gAnd_intro e2 (gAnd_intro ?_ ?_))
  · rw [tag_ok rfl, decide_eq_true (by unfold limE at hl; omega)]; rfl
  · rw [strip_row _ (hL _) (stripAs _ _ _) rfl, e1, stripAs]
    unfold hTg at hk
    rw [len_app] at hk
    exact hk
theorem c27r : COk cfg 27 addRC := by
  refine cok_heap hf27 fun vs h K ht => ?_
  obtain ⟨s, a, fr, L, hid, k, nm, l, hok, ha, hs, hf, hl, rfl, rfl, hk⟩ := ht
  obtain ⟨e1, e2⟩ := cut_cutL s hf ha
  have hL := fun g => (hok 10 g (Nat.le_refl _)).2
  refine t27r noT (gAnd_intro e2 (gAnd_intro ?_ ?_))
  · rw [tag_ok rfl, decide_eq_true (by unfold limE at hl; omega)]; rfl
  · rw [strip_row _ (hL _) rfl rfl, e1, stripAs]
    unfold hTG at hk
    rw [len_app] at hk
    exact hk
theorem encTs_app (l m : List Tok) : encTs (l ++ m) = encTs l ++ encTs m := by unfold encTs; rw [List.map_append]
theorem encTs_len (l : List Tok) : (encTs l).length = l.length := by simp [encTs]
theorem wrap_add {a b : Nat} (h : a + b ≤ 2 * limE) : IntKind.wrap .i64 ((a : Int) + (b : Int)) = ((a + b : Nat) : Int) := by
  unfold limE at h; rw [wrap_in] <;> omega
theorem tab27g : TabOk cfg (ctab [(27, addGC)]) := ctab_ok (ctab_cons c27g ctab_nil)
theorem c26 : COk cfg 26 showTC := by
  refine cok_heap hf26 fun vs h K ht => ?_
  obtain ⟨s, a, l, hid, ha, hs, hl, rfl, rfl, hk⟩ := ht
  have e3 : IntKind.wrap .i64 ((a : Int) + 3) = ((a + 3 : Nat) : Int) := wrap_add (b := 3) (by omega)
  refine t26 tab27g ⟨s, a + 3, a, encTs l, -1, 6, okG l, ha, hs, by omega, by rw [encTs_len]; exact Nat.le_trans hl hs, rfl, by rw [e3], ?_⟩
  rw [encTs_app] at hk
  unfold row
  rw [strip_row0 _ (stripTs _ _ _) rfl rfl, len_app]
  unfold hX at hk
  rw [show encTs [(⟨6, [], [], cut s a (a + 3), a, a + 3⟩ : Tok)] = [row 6 [] [] none (cut s a (a + 3)) a ((a + 3 : Nat) : Int)] from rfl, len_app] at hk
  exact hk
theorem c16 : COk cfg 16 textTC := by
  refine cok_heap hf16 fun vs h K ht => ?_
  obtain ⟨s, fr, a, l, hid, hf, ha, hs, hl, rfl, rfl, hk⟩ := ht
  refine t16 tab27g (ifP_intro (fun x => ⟨s, a, fr, encTs l, hid, 1, okG l, ha, hs, hf, by rw [encTs_len]; exact Nat.le_trans hl hs, rfl, rfl, ?_⟩) fun x => ?_)
  · have hlt : fr < a := by simp at x; omega
    rw [textL, if_pos hlt, encTs_app] at hk
    unfold row
    rw [strip_row0 _ (stripTs _ _ _) rfl rfl, len_app]
    unfold hX at hk
    rw [show encTs [(⟨1, [], [], cut s fr a, fr, a⟩ : Tok)] = [row 1 [] [] none (cut s fr a) fr a] from rfl, len_app] at hk
    exact hk
  · have hlt : ¬ fr < a := by simp at x; omega
    rw [textL, if_neg hlt, List.append_nil] at hk
    rw [stripTs]
    exact hk
theorem cut_from (s : List UInt8) {a : Nat} (h : a ≤ s.length) : cutL s (some (a : Int)) none = s.drop a ∧ cutOb s.length (some (a : Int)) none = true := by
  refine ⟨by simp only [cutL, Int.toNat_natCast], ?_⟩
  simp only [cutOb]
  rw [decide_eq_true (by omega), decide_eq_true (by omega)]; rfl
theorem tab15 : TabOk cfg (ctab [(21, Ex.prefC), (24, blankC)]) := ctab_ok (ctab_cons c21 (ctab_cons c24 ctab_nil))
theorem c15 : COk cfg 15 findC := by
  refine cok_heap hf15 fun vs h K ht => ?_
  obtain ⟨s, a, l, hid, ha, hs, rfl, rfl, hk⟩ := ht
  obtain ⟨e1, e2⟩ := cut_from s ha
  refine t15 tab15 (gAnd_intro e2 ?_)
  rw [e1]
  simp only [stripTs]
  have hh : hideB s a = (hidesS.isPrefixOf (s.drop a) && (decide (((s.drop a).length : Int) > 7) && blB ((s.drop a).getD 7 0))) := by
    unfold hideB has
    rw [← getD_drop', List.length_drop]
    congr 2
    rw [decide_eq_decide]
    omega
  have tail : hideB s a = false → has s opensS a = false → has s closesS a = false → ∃ (s8 x9 : List UInt8), [AV.str (s.drop a), AV.str [45, 45, 62]] = [AV.str s8, AV.str x9] ∧ ifP (x9.isPrefixOf s8) (ifP (decide (hid ≥ 0)) (K (.fn (.func 26) [.ptr 5 0] []) (hX s a (encTs l) hid)) (K .nilf (hX s a (encTs l) hid))) (K .nilf (hX s a (encTs l) hid)) := by
    intro h3 h1 h2
    refine ⟨s.drop a, showsS, rfl, ifP_intro (fun x => ifP_intro (fun y => ?_) fun y => ?_) fun x => ?_⟩
    all_goals
      have x' : has s showsS a = _ := x
      simp only [findV, h1, h2, h3, x', Bool.false_eq_true, if_false, Bool.true_and, Bool.false_and] at hk
      first | (rw [if_pos (by simpa using y)] at hk; exact hk) | (rw [if_neg (by simpa using y)] at hk; exact hk) | exact hk
  refine ⟨s.drop a, opensS, rfl, ifP_intro (fun x => ?_) fun h1 => ⟨s.drop a, closesS, rfl, ifP_intro (fun x => ?_) fun h2 => ⟨s.drop a, hidesS, rfl, ifP_intro (fun h3 => ifP_intro (fun h4 => gAnd_intro ?_ ⟨(s.drop a).getD 7 0, rfl, ifP_intro (fun h5 => ?_) fun h5 => ?_⟩) fun h4 => ?_) fun h3 => ?_⟩⟩⟩
  · rw [findV, if_pos (show has s opensS a = true from x)] at hk; exact hk
  · rw [findV, if_neg (by rw [show has s opensS a = false from h1]; simp), if_pos (show has s closesS a = true from x)] at hk; exact hk
  · exact inR_nat (i := 7) (by simp at h4 ⊢; omega)
  · rw [findV, if_neg (by rw [show has s opensS a = false from h1]; simp), if_neg (by rw [show has s closesS a = false from h2]; simp), if_pos (by rw [hh, h3, h4, h5]; rfl)] at hk; exact hk
  · exact tail (by rw [hh, h3, h4, h5]; rfl) h1 h2
  · exact tail (by rw [hh, h3, h4]; rfl) h1 h2
  · exact tail (by rw [hh, h3]; rfl) h1 h2
end Go.Proofs.YtolmmodgneodbaaDoor
end
