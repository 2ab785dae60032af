/-
  Runs of the functions of a page's pieces, printed by a home tool; each is the kernel's word.
  Pieces of a page's text: a tag that opens as the document says it, under contract.
  Runs of the functions of a page's pieces, printed by a home tool; each is the kernel's word.
  Pieces of a page's text: what stands at a place as the document says it, under contract.
  Runs of the functions of a page's pieces, printed by a home tool; each is the kernel's word.
  Pieces of a page's text: the pieces as the document says them; that both are the same. The row's function under contract.
-/
import Derived.Test.YtolmmodgneodbaaDoorJEk
import Derived.Test.YtolmmodgneodbaaDoorJEu
import Derived.Test.YtolmmodgneodbaaDoorJEw
section
namespace Go.Proofs.YtolmmodgneodbaaDoor
open Go.Ai Go Go.Ai.Ex
set_option maxRecDepth 100000
set_option linter.unusedVariables false
theorem t30 {v : AV} {s : List UInt8} {tag : Int} (hT : TabOk cfg2 (ctab [(43, letsC), (44, knownC), (45, pastC), (46, attrRC)])) (H :
    ∃ (s1 : List UInt8), ∃ (a2 : Nat), List.length s1 ≤ 1000000 ∧ a2 ≤ List.length s1 ∧ [AV.str s, AV.int IntKind.i64 (IntKind.wrap IntKind.i64 (tag + 5))] = [AV.str s1, AV.int IntKind.i64 (↑a2 : Int)] ∧ gAnd (cutOb (List.length s) (some (IntKind.wrap IntKind.i64 (tag + 5))) (some (IntKind.wrap IntKind.i64 (IntKind.wrap IntKind.i64 (tag + 5) + (↑(lets s1 a2) : Int))))) (∃ (s3 : List UInt8), [AV.str (cutL s (some (IntKind.wrap IntKind.i64 (tag + 5))) (some (IntKind.wrap IntKind.i64 (IntKind.wrap IntKind.i64 (tag + 5) + (↑(lets s1 a2) : Int)))))] = [AV.str s3] ∧ ifP (!knownB s3) (AV.tup [AV.agg [AV.int IntKind.i64 2, AV.str (cutL s (some (IntKind.wrap IntKind.i64 (tag + 5))) (some (IntKind.wrap IntKind.i64 (IntKind.wrap IntKind.i64 (tag + 5) + (↑(lets s1 a2) : Int))))), AV.sl 3 [] none, AV.str [], AV.int IntKind.i64 tag, AV.int IntKind.i64 0], AV.int IntKind.i64 tag, AV.int IntKind.i64 11] = v) (ToEnd cfg2 30 (bodyOf Tryd.f30) (RetIs Tryd.prog Tryd.f30 v) [Fm.code [0, 0, 1, 1, 1, 1, 1], Fm.block 0, Fm.code [1, 1, 1, 1, 1, 1]] XT.normal [(0, true, AV.str s), (1, true, AV.int IntKind.i64 tag), (4, true, AV.ptr 1 0), (8, true, AV.ptr 4 0), (9, true, AV.int IntKind.i64 (IntKind.wrap IntKind.i64 (IntKind.wrap IntKind.i64 (tag + 5) + (↑(lets s1 a2) : Int))))] [Blk.grow 0 3 40, Blk.mem 33 [AV.int IntKind.i64 0, AV.str [], AV.sl 3 [] (some 0), AV.str [], AV.int IntKind.i64 0, AV.int IntKind.i64 0], Blk.grow 0 3 40, Blk.grow 0 3 40, Blk.mem 33 [AV.int IntKind.i64 2, AV.str (cutL s (some (IntKind.wrap IntKind.i64 (tag + 5))) (some (IntKind.wrap IntKind.i64 (IntKind.wrap IntKind.i64 (tag + 5) + (↑(lets s1 a2) : Int))))), AV.sl 3 [] (some 2), AV.str [], AV.int IntKind.i64 tag, AV.int IntKind.i64 0]]))) :
    ToEnd cfg2 30 (bodyOf Tryd.f30) (RetIs Tryd.prog Tryd.f30 v) ([.code []]) .normal ([(0, true, .str s), (1, true, .int .i64 tag)]) ([]) := by
  exact unr_ok hT 100000 _ _ _ _ (show unr cfg2 30 (bodyOf Tryd.f30) (ctab [(43, letsC), (44, knownC), (45, pastC), (46, attrRC)]) ⟨[[0, 0, 1, 1, 1, 1, 1], [1, 1, 1, 1, 1, 1]], []⟩ (RetIs Tryd.prog Tryd.f30 v) 100000 ([.code []]) .normal ([(0, true, .str s), (1, true, .int .i64 tag)]) ([]) from unr_use H (by kernel_rfl))

theorem t30a {v : AV} {s : List UInt8} {tag at' : Int} {nm : List UInt8} {es : List (List AV)} (hT : TabOk cfg2 (ctab [(43, letsC), (44, knownC), (45, pastC), (46, attrRC)])) (H :
    ∃ (s1 : List UInt8),
  ∃ (a2 : Nat),
    List.length s1 ≤ 1000000 ∧
      a2 ≤ List.length s1 ∧
        [AV.str s, AV.int IntKind.i64 at'] = [AV.str s1, AV.int IntKind.i64 (↑a2 : Int)] ∧
          ifP ((↑(past s1 a2) : Int) == (↑(List.length s) : Int)) (AV.tup [AV.agg [AV.int IntKind.i64 2, AV.str nm, AV.sl 3 (stripss 0 [Blk.grow 0 3 40, Blk.mem 33 [AV.int IntKind.i64 2, AV.str nm, AV.sl 3 es (some 2), AV.str [], AV.int IntKind.i64 tag, AV.int IntKind.i64 0], Blk.grow (List.length es) 3 40, Blk.grow 0 3 40, Blk.mem 33 [AV.int IntKind.i64 2, AV.str nm, AV.sl 3 es (some 2), AV.str [], AV.int IntKind.i64 tag, AV.int IntKind.i64 0]] es) none, AV.str [], AV.int IntKind.i64 tag, AV.int IntKind.i64 0], AV.int IntKind.i64 tag, AV.int IntKind.i64 14] = v)
            (gAnd (inR (↑(past s1 a2) : Int) (List.length s))
              (ifP ((↑(UInt8.toNat (List.getD s (Int.toNat (↑(past s1 a2) : Int)) 0)) : Int) == 62) (ToEnd cfg2 30 (bodyOf Tryd.f30) (RetIs Tryd.prog Tryd.f30 v) [Fm.code [1, 1, 1, 1, 1, 1]] XT.normal [(0, true, AV.str s), (1, true, AV.int IntKind.i64 tag), (4, true, AV.ptr 1 0), (8, true, AV.ptr 4 0), (9, true, AV.int IntKind.i64 (↑(past s1 a2) : Int))] [Blk.grow 0 3 40, Blk.mem 33 [AV.int IntKind.i64 0, AV.str [], AV.sl 3 [] (some 0), AV.str [], AV.int IntKind.i64 0, AV.int IntKind.i64 0], Blk.grow (List.length es) 3 40, Blk.grow 0 3 40, Blk.mem 33 [AV.int IntKind.i64 2, AV.str nm, AV.sl 3 es (some 2), AV.str [], AV.int IntKind.i64 tag, AV.int IntKind.i64 0]])
                (gAnd (inR (↑(past s1 a2) : Int) (List.length s))
                  (ifP ((↑(UInt8.toNat (List.getD s (Int.toNat (↑(past s1 a2) : Int)) 0)) : Int) == 47) (ToEnd cfg2 30 (bodyOf Tryd.f30) (RetIs Tryd.prog Tryd.f30 v) [Fm.code [1, 1, 1, 1, 1, 1]] XT.normal [(0, true, AV.str s), (1, true, AV.int IntKind.i64 tag), (4, true, AV.ptr 1 0), (8, true, AV.ptr 4 0), (9, true, AV.int IntKind.i64 (↑(past s1 a2) : Int))] [Blk.grow 0 3 40, Blk.mem 33 [AV.int IntKind.i64 0, AV.str [], AV.sl 3 [] (some 0), AV.str [], AV.int IntKind.i64 0, AV.int IntKind.i64 0], Blk.grow (List.length es) 3 40, Blk.grow 0 3 40, Blk.mem 33 [AV.int IntKind.i64 2, AV.str nm, AV.sl 3 es (some 2), AV.str [], AV.int IntKind.i64 tag, AV.int IntKind.i64 0]])
                    (ifP ((↑(past s1 a2) : Int) == at') (AV.tup [AV.agg [AV.int IntKind.i64 2, AV.str nm, AV.sl 3 (stripss 0 [Blk.grow 0 3 40, Blk.mem 33 [AV.int IntKind.i64 2, AV.str nm, AV.sl 3 es (some 2), AV.str [], AV.int IntKind.i64 tag, AV.int IntKind.i64 0], Blk.grow (List.length es) 3 40, Blk.grow 0 3 40, Blk.mem 33 [AV.int IntKind.i64 2, AV.str nm, AV.sl 3 es (some 2), AV.str [], AV.int IntKind.i64 tag, AV.int IntKind.i64 0]] es) none, AV.str [], AV.int IntKind.i64 tag, AV.int IntKind.i64 0], AV.int IntKind.i64 at', AV.int IntKind.i64 12] = v)
                      (∃ (s3 : List UInt8),
                        ∃ (a4 : Nat),
                          ∃ (tag5 : Nat),
                            ∃ (l6 : List Att), List.length s3 ≤ 1000000 ∧ a4 ≤ List.length s3 ∧ tag5 ≤ List.length s3 ∧ List.length l6 ≤ 1000000 ∧ [AV.str s, AV.int IntKind.i64 (↑(past s1 a2) : Int), AV.int IntKind.i64 tag, AV.sl 3 (stripss 0 [] es) none] = [AV.str s3, AV.int IntKind.i64 (↑a4 : Int), AV.int IntKind.i64 (↑tag5 : Int), AV.sl 3 (encAs l6) none] ∧ (∀ (p7 : Nat) (e8 : Int), attrM s3 a4 tag5 l6 = Except.error (p7, e8) → ∀ (x10 : Att), ifP (e8 != 0) (AV.tup [AV.agg [AV.int IntKind.i64 2, AV.str nm, AV.sl 3 (stripss 0 [Blk.grow 0 3 40, Blk.mem 33 [AV.int IntKind.i64 2, AV.str nm, AV.sl 3 es (some 2), AV.str [], AV.int IntKind.i64 tag, AV.int IntKind.i64 0], Blk.grow (List.length es) 3 40, Blk.grow 0 3 40, Blk.mem 33 [AV.int IntKind.i64 2, AV.str nm, AV.sl 3 es (some 2), AV.str [], AV.int IntKind.i64 tag, AV.int IntKind.i64 0], Blk.mem 40 [AV.str (Att.name x10), AV.str (Att.value x10), AV.int IntKind.i64 (↑(Att.at' x10) : Int)]] es) none, AV.str [], AV.int IntKind.i64 tag, AV.int IntKind.i64 0], AV.int IntKind.i64 (↑p7 : Int), AV.int IntKind.i64 e8] = v) (gAnd (tagOk [Blk.grow 0 3 40, Blk.mem 33 [AV.int IntKind.i64 0, AV.str [], AV.sl 3 [] (some 0), AV.str [], AV.int IntKind.i64 0, AV.int IntKind.i64 0], Blk.grow (List.length es) 3 40, Blk.grow 0 3 40, Blk.mem 33 [AV.int IntKind.i64 2, AV.str nm, AV.sl 3 es (some 2), AV.str [], AV.int IntKind.i64 tag, AV.int IntKind.i64 0], Blk.mem 40 [AV.str (Att.name x10), AV.str (Att.value x10), AV.int IntKind.i64 (↑(Att.at' x10) : Int)], Blk.grow 1 3 40] (List.length es) 3 40 (some 2) && true && true && true && decide ((List.length es + 1) * 40 ≤ 140737488355328) && true && true) (gAnd (lowVss 5 (es ++ [[AV.str (Att.name x10), AV.str (Att.value x10), AV.int IntKind.i64 (↑(Att.at' x10) : Int)]]) && true && true && true) (ToEnd cfg2 30 (bodyOf Tryd.f30) (RetIs Tryd.prog Tryd.f30 v) [Fm.code [0, 0, 1, 1, 1, 1, 1], Fm.block 0, Fm.code [1, 1, 1, 1, 1, 1]] XT.normal [(0, true, AV.str s), (1, true, AV.int IntKind.i64 tag), (4, true, AV.ptr 1 0), (8, true, AV.ptr 4 0), (9, true, AV.int IntKind.i64 0)] [Blk.grow 0 3 40, Blk.mem 33 [AV.int IntKind.i64 0, AV.str [], AV.sl 3 [] (some 0), AV.str [], AV.int IntKind.i64 0, AV.int IntKind.i64 0], Blk.grow (List.length es + 1) 3 40, Blk.grow 0 3 40, Blk.mem 33 [AV.int IntKind.i64 2, AV.str nm, AV.sl 3 (es ++ [[AV.str (Att.name x10), AV.str (Att.value x10), AV.int IntKind.i64 (↑(Att.at' x10) : Int)]]) (some 2), AV.str [], AV.int IntKind.i64 tag, AV.int IntKind.i64 0]])))) ∧ ∀ (x11 : Att) (b12 : Nat), attrM s3 a4 tag5 l6 = Except.ok (x11, b12) → gAnd (tagOk [Blk.grow 0 3 40, Blk.mem 33 [AV.int IntKind.i64 0, AV.str [], AV.sl 3 [] (some 0), AV.str [], AV.int IntKind.i64 0, AV.int IntKind.i64 0], Blk.grow (List.length es) 3 40, Blk.grow 0 3 40, Blk.mem 33 [AV.int IntKind.i64 2, AV.str nm, AV.sl 3 es (some 2), AV.str [], AV.int IntKind.i64 tag, AV.int IntKind.i64 0], Blk.mem 40 [AV.str (Att.name x11), AV.str (Att.value x11), AV.int IntKind.i64 (↑(Att.at' x11) : Int)], Blk.grow 1 3 40] (List.length es) 3 40 (some 2) && true && true && true && decide ((List.length es + 1) * 40 ≤ 140737488355328) && true && true) (gAnd (lowVss 5 (es ++ [[AV.str (Att.name x11), AV.str (Att.value x11), AV.int IntKind.i64 (↑(Att.at' x11) : Int)]]) && true && true && true) (ToEnd cfg2 30 (bodyOf Tryd.f30) (RetIs Tryd.prog Tryd.f30 v) [Fm.code [0, 0, 1, 1, 1, 1, 1], Fm.block 0, Fm.code [1, 1, 1, 1, 1, 1]] XT.normal [(0, true, AV.str s), (1, true, AV.int IntKind.i64 tag), (4, true, AV.ptr 1 0), (8, true, AV.ptr 4 0), (9, true, AV.int IntKind.i64 (↑b12 : Int))] [Blk.grow 0 3 40, Blk.mem 33 [AV.int IntKind.i64 0, AV.str [], AV.sl 3 [] (some 0), AV.str [], AV.int IntKind.i64 0, AV.int IntKind.i64 0], Blk.grow (List.length es + 1) 3 40, Blk.grow 0 3 40, Blk.mem 33 [AV.int IntKind.i64 2, AV.str nm, AV.sl 3 (es ++ [[AV.str (Att.name x11), AV.str (Att.value x11), AV.int IntKind.i64 (↑(Att.at' x11) : Int)]]) (some 2), AV.str [], AV.int IntKind.i64 tag, AV.int IntKind.i64 0]]))))))))) :
    ToEnd cfg2 30 (bodyOf Tryd.f30) (RetIs Tryd.prog Tryd.f30 v) ([.code [0, 0, 1, 1, 1, 1, 1], .block 0, .code [1, 1, 1, 1, 1, 1]]) .normal ([(0, true, .str s), (1, true, .int .i64 tag), (4, true, .ptr 1 0), (8, true, .ptr 4 0), (9, true, .int .i64 at')]) ([.grow 0 3 40, .mem 33 [.int .i64 0, .str [], .sl 3 [] (some 0), .str [], .int .i64 0, .int .i64 0], .grow es.length 3 40, .grow 0 3 40, .mem 33 [.int .i64 2, .str nm, .sl 3 es (some 2), .str [], .int .i64 tag, .int .i64 0]]) := by
  exact ends_round hT 100000 (by kernel_rfl) (show unr cfg2 30 (bodyOf Tryd.f30) (ctab [(43, letsC), (44, knownC), (45, pastC), (46, attrRC)]) ⟨[[0, 0, 1, 1, 1, 1, 1], [1, 1, 1, 1, 1, 1]], []⟩ (RetIs Tryd.prog Tryd.f30 v) 100000 ([.code [0, 0, 0, 1, 1, 1, 1, 1], .loop [0, 0, 1, 1, 1, 1, 1] 5, .block 0, .code [1, 1, 1, 1, 1, 1]]) .normal ([(0, true, .str s), (1, true, .int .i64 tag), (4, true, .ptr 1 0), (8, true, .ptr 4 0), (9, true, .int .i64 at')]) ([.grow 0 3 40, .mem 33 [.int .i64 0, .str [], .sl 3 [] (some 0), .str [], .int .i64 0, .int .i64 0], .grow es.length 3 40, .grow 0 3 40, .mem 33 [.int .i64 2, .str nm, .sl 3 es (some 2), .str [], .int .i64 tag, .int .i64 0]]) from unr_use H (by kernel_rfl))

theorem t30b {v : AV} {s : List UInt8} {tag at' : Int} {nm : List UInt8} {es : List (List AV)} (hT : TabOk cfg2 (ctab [(43, letsC), (44, knownC), (45, pastC), (46, attrRC)])) (H :
    gAnd (inR at' (List.length s))
  (ifP ((↑(UInt8.toNat (List.getD s (Int.toNat at') 0)) : Int) == 47) (ifP (IntKind.wrap IntKind.i64 (at' + 1) == (↑(List.length s) : Int)) (AV.tup [AV.agg [AV.int IntKind.i64 3, AV.str nm, AV.sl 3 (stripss 0 [Blk.grow 0 3 40, Blk.mem 33 [AV.int IntKind.i64 3, AV.str nm, AV.sl 3 es (some 2), AV.str [], AV.int IntKind.i64 tag, AV.int IntKind.i64 0], Blk.grow (List.length es) 3 40, Blk.grow 0 3 40, Blk.mem 33 [AV.int IntKind.i64 3, AV.str nm, AV.sl 3 es (some 2), AV.str [], AV.int IntKind.i64 tag, AV.int IntKind.i64 0]] es) none, AV.str [], AV.int IntKind.i64 tag, AV.int IntKind.i64 0], AV.int IntKind.i64 tag, AV.int IntKind.i64 14] = v) (gAnd (inR (IntKind.wrap IntKind.i64 (at' + 1)) (List.length s)) (ifP ((↑(UInt8.toNat (List.getD s (Int.toNat (IntKind.wrap IntKind.i64 (at' + 1))) 0)) : Int) != 62) (AV.tup [AV.agg [AV.int IntKind.i64 3, AV.str nm, AV.sl 3 (stripss 0 [Blk.grow 0 3 40, Blk.mem 33 [AV.int IntKind.i64 3, AV.str nm, AV.sl 3 es (some 2), AV.str [], AV.int IntKind.i64 tag, AV.int IntKind.i64 0], Blk.grow (List.length es) 3 40, Blk.grow 0 3 40, Blk.mem 33 [AV.int IntKind.i64 3, AV.str nm, AV.sl 3 es (some 2), AV.str [], AV.int IntKind.i64 tag, AV.int IntKind.i64 0]] es) none, AV.str [], AV.int IntKind.i64 tag, AV.int IntKind.i64 0], AV.int IntKind.i64 (IntKind.wrap IntKind.i64 (at' + 1)), AV.int IntKind.i64 12] = v) (gAnd (cutOb (List.length s) (some tag) (some (IntKind.wrap IntKind.i64 (IntKind.wrap IntKind.i64 (at' + 1) + 1)))) (AV.tup [AV.agg [AV.int IntKind.i64 3, AV.str nm, AV.sl 3 (stripss 0 [Blk.grow 0 3 40, Blk.mem 33 [AV.int IntKind.i64 3, AV.str nm, AV.sl 3 es (some 2), AV.str (cutL s (some tag) (some (IntKind.wrap IntKind.i64 (IntKind.wrap IntKind.i64 (at' + 1) + 1)))), AV.int IntKind.i64 tag, AV.int IntKind.i64 (IntKind.wrap IntKind.i64 (IntKind.wrap IntKind.i64 (at' + 1) + 1))], Blk.grow (List.length es) 3 40, Blk.grow 0 3 40, Blk.mem 33 [AV.int IntKind.i64 3, AV.str nm, AV.sl 3 es (some 2), AV.str (cutL s (some tag) (some (IntKind.wrap IntKind.i64 (IntKind.wrap IntKind.i64 (at' + 1) + 1)))), AV.int IntKind.i64 tag, AV.int IntKind.i64 (IntKind.wrap IntKind.i64 (IntKind.wrap IntKind.i64 (at' + 1) + 1))]] es) none, AV.str (cutL s (some tag) (some (IntKind.wrap IntKind.i64 (IntKind.wrap IntKind.i64 (at' + 1) + 1)))), AV.int IntKind.i64 tag, AV.int IntKind.i64 (IntKind.wrap IntKind.i64 (IntKind.wrap IntKind.i64 (at' + 1) + 1))], AV.int IntKind.i64 0, AV.int IntKind.i64 0] = v)))))
    (ifP (at' == (↑(List.length s) : Int)) (AV.tup [AV.agg [AV.int IntKind.i64 2, AV.str nm, AV.sl 3 (stripss 0 [Blk.grow 0 3 40, Blk.mem 33 [AV.int IntKind.i64 2, AV.str nm, AV.sl 3 es (some 2), AV.str [], AV.int IntKind.i64 tag, AV.int IntKind.i64 0], Blk.grow (List.length es) 3 40, Blk.grow 0 3 40, Blk.mem 33 [AV.int IntKind.i64 2, AV.str nm, AV.sl 3 es (some 2), AV.str [], AV.int IntKind.i64 tag, AV.int IntKind.i64 0]] es) none, AV.str [], AV.int IntKind.i64 tag, AV.int IntKind.i64 0], AV.int IntKind.i64 tag, AV.int IntKind.i64 14] = v) (gAnd (inR at' (List.length s)) (ifP ((↑(UInt8.toNat (List.getD s (Int.toNat at') 0)) : Int) != 62) (AV.tup [AV.agg [AV.int IntKind.i64 2, AV.str nm, AV.sl 3 (stripss 0 [Blk.grow 0 3 40, Blk.mem 33 [AV.int IntKind.i64 2, AV.str nm, AV.sl 3 es (some 2), AV.str [], AV.int IntKind.i64 tag, AV.int IntKind.i64 0], Blk.grow (List.length es) 3 40, Blk.grow 0 3 40, Blk.mem 33 [AV.int IntKind.i64 2, AV.str nm, AV.sl 3 es (some 2), AV.str [], AV.int IntKind.i64 tag, AV.int IntKind.i64 0]] es) none, AV.str [], AV.int IntKind.i64 tag, AV.int IntKind.i64 0], AV.int IntKind.i64 at', AV.int IntKind.i64 12] = v) (gAnd (cutOb (List.length s) (some tag) (some (IntKind.wrap IntKind.i64 (at' + 1)))) (AV.tup [AV.agg [AV.int IntKind.i64 2, AV.str nm, AV.sl 3 (stripss 0 [Blk.grow 0 3 40, Blk.mem 33 [AV.int IntKind.i64 2, AV.str nm, AV.sl 3 es (some 2), AV.str (cutL s (some tag) (some (IntKind.wrap IntKind.i64 (at' + 1)))), AV.int IntKind.i64 tag, AV.int IntKind.i64 (IntKind.wrap IntKind.i64 (at' + 1))], Blk.grow (List.length es) 3 40, Blk.grow 0 3 40, Blk.mem 33 [AV.int IntKind.i64 2, AV.str nm, AV.sl 3 es (some 2), AV.str (cutL s (some tag) (some (IntKind.wrap IntKind.i64 (at' + 1)))), AV.int IntKind.i64 tag, AV.int IntKind.i64 (IntKind.wrap IntKind.i64 (at' + 1))]] es) none, AV.str (cutL s (some tag) (some (IntKind.wrap IntKind.i64 (at' + 1)))), AV.int IntKind.i64 tag, AV.int IntKind.i64 (IntKind.wrap IntKind.i64 (at' + 1))], AV.int IntKind.i64 0, AV.int IntKind.i64 0] = v))))))) :
    ToEnd cfg2 30 (bodyOf Tryd.f30) (RetIs Tryd.prog Tryd.f30 v) ([.code [1, 1, 1, 1, 1, 1]]) .normal ([(0, true, .str s), (1, true, .int .i64 tag), (4, true, .ptr 1 0), (8, true, .ptr 4 0), (9, true, .int .i64 at')]) ([.grow 0 3 40, .mem 33 [.int .i64 0, .str [], .sl 3 [] (some 0), .str [], .int .i64 0, .int .i64 0], .grow es.length 3 40, .grow 0 3 40, .mem 33 [.int .i64 2, .str nm, .sl 3 es (some 2), .str [], .int .i64 tag, .int .i64 0]]) := by
  exact unr_ok hT 100000 _ _ _ _ (show unr cfg2 30 (bodyOf Tryd.f30) (ctab [(43, letsC), (44, knownC), (45, pastC), (46, attrRC)]) ⟨[], []⟩ (RetIs Tryd.prog Tryd.f30 v) 100000 ([.code [1, 1, 1, 1, 1, 1]]) .normal ([(0, true, .str s), (1, true, .int .i64 tag), (4, true, .ptr 1 0), (8, true, .ptr 4 0), (9, true, .int .i64 at')]) ([.grow 0 3 40, .mem 33 [.int .i64 0, .str [], .sl 3 [] (some 0), .str [], .int .i64 0, .int .i64 0], .grow es.length 3 40, .grow 0 3 40, .mem 33 [.int .i64 2, .str nm, .sl 3 es (some 2), .str [], .int .i64 tag, .int .i64 0]]) from unr_use H (by kernel_rfl))

end Go.Proofs.YtolmmodgneodbaaDoor
end

section
namespace Go.Proofs.YtolmmodgneodbaaDoor
open Go.Ai Go Go.Ai.Ex
set_option linter.unusedSimpArgs false
set_option linter.unusedVariables false
set_option maxRecDepth 100000
theorem pf30 : pureFn cfg2 30 Tryd.f30 := ⟨by kernel_rfl, by kernel_rfl, by kernel_rfl, by kernel_rfl, by kernel_rfl, by kernel_rfl⟩
theorem tab30 : TabOk cfg2 (ctab [(43, letsC), (44, knownC), (45, pastC), (46, attrRC)]) := ctab_ok (ctab_cons c43 (ctab_cons c44 (ctab_cons c45 (ctab_cons c46 ctab_nil))))
def endV (s nm : List UInt8) (tag : Nat) (l : List Att) (b : Nat) : AV := match tagEnd s tag nm l b with
  | .error (p, e) => .tup [.agg (encT ⟨if s.getD b 0 = 47 then 3 else 2, nm, l, [], tag, 0⟩), .int .i64 p, .int .i64 e]
  | .ok t => .tup [.agg (encT t), .int .i64 0, .int .i64 0]
def contV (s nm : List UInt8) (tag f a : Nat) (l : List Att) : AV := match attrsM s tag f a l with
  | .error (p, e) => .tup [.agg (encT ⟨2, nm, attrsP s tag f a l, [], tag, 0⟩), .int .i64 p, .int .i64 e]
  | .ok (l', b) => endV s nm tag l' b
def openV (s : List UInt8) (tag : Nat) : AV :=
  if knownB ((s.drop (tag + 5)).take (lets s (tag + 5))) = false then .tup [.agg (encT ⟨2, (s.drop (tag + 5)).take (lets s (tag + 5)), [], [], tag, 0⟩), .int .i64 tag, .int .i64 11]
  else contV s ((s.drop (tag + 5)).take (lets s (tag + 5))) tag (s.length + 1) (tag + 5 + lets s (tag + 5)) []
theorem strip_as (n : Nat) (g : Hp) (l : List Att) : stripss n g (encAs l) = encAs l := stripss_low n g _ (low_as n l)
def hO (nm : List UInt8) (tag : Nat) (l : List Att) : Hp := [.grow 0 3 40, .mem 33 [.int .i64 0, .str [], .sl 3 [] (some 0), .str [], .int .i64 0, .int .i64 0], .grow (encAs l).length 3 40, .grow 0 3 40, .mem 33 [.int .i64 2, .str nm, .sl 3 (encAs l) (some 2), .str [], .int .i64 tag, .int .i64 0]]
theorem tagEnd_yes {s nm : List UInt8} {tag b : Nat} {l : List Att} (h : s.getD b 0 = 47) : tagEnd s tag nm l b = if s.length ≤ b + 1 then .error (tag, 14) else if s.getD (b + 1) 0 ≠ 62 then .error (b + 1, 12) else .ok ⟨3, nm, l, cut s tag (b + 1 + 1), tag, b + 1 + 1⟩ := by
  unfold tagEnd
  simp only [h, if_true]
theorem tagEnd_no {s nm : List UInt8} {tag b : Nat} {l : List Att} (h : ¬ s.getD b 0 = 47) : tagEnd s tag nm l b = if s.length ≤ b then .error (tag, 14) else if s.getD b 0 ≠ 62 then .error (b, 12) else .ok ⟨2, nm, l, cut s tag (b + 1), tag, b + 1⟩ := by
  unfold tagEnd
  simp only [if_neg h, Nat.add_zero]
  rfl
theorem end30 {s nm : List UInt8} {tag b : Nat} {l : List Att} (hs : s.length ≤ limE) (htb : tag ≤ b) (hb : b < s.length) :
    ToEnd cfg2 30 (bodyOf Tryd.f30) (RetIs Tryd.prog Tryd.f30 (endV s nm tag l b)) [.code [1, 1, 1, 1, 1, 1]] .normal [(0, true, .str s), (1, true, .int .i64 tag), (4, true, .ptr 1 0), (8, true, .ptr 4 0), (9, true, .int .i64 b)] (hO nm tag l) := by
  have hs' : s.length ≤ 1000000 := hs
  have w1 : IntKind.wrap .i64 ((b : Int) + 1) = ((b + 1 : Nat) : Int) := wr (by omega) (by omega)
  have w2 : IntKind.wrap .i64 (((b + 1 : Nat) : Int) + 1) = ((b + 1 + 1 : Nat) : Int) := wr (by omega) (by omega)
  have b47 : (((s.getD b 0).toNat : Int) == 47) = (s.getD b 0 == 47) := byte_is _ 47 (by omega)
  refine t30b tab30 (gAnd_intro (inR_nat hb) ?_)
  rw [w1, w2]
  simp only [strip_as]
  show ifP (((s.getD b 0).toNat : Int) == 47) _ _
  rw [b47]
  have b62 := byteN (s.getD b 0) 62 (by omega)
  have b62' := byteN (s.getD (b + 1) 0) 62 (by omega)
  refine ifP_intro (fun x => ifP_intro (fun y => ?_) fun y => gAnd_intro ?_ (ifP_intro (fun z => ?_) fun z => ?_)) fun x => ifP_intro (fun y => ?_) fun y => gAnd_intro (inR_nat hb) (ifP_intro (fun z => ?_) fun z => ?_)
  all_goals (try unfold endV)
  · have x : s.getD b 0 = 47 := by simpa using x
    have y : s.length ≤ b + 1 := by simp at y; omega
    rw [tagEnd_yes x, if_pos y]
    simp only [if_pos x]
    rfl
  · exact inR_nat (by simp at y; omega)
  · have x : s.getD b 0 = 47 := by simpa using x
    have y : ¬ s.length ≤ b + 1 := by simp at y; omega
    have z : s.getD (b + 1) 0 ≠ 62 := by simpa using b62'.symm.trans z
    rw [tagEnd_yes x, if_neg y, if_pos z]
    simp only [if_pos x]
    rfl
  · have x : s.getD b 0 = 47 := by simpa using x
    have y : ¬ s.length ≤ b + 1 := by simp at y; omega
    have z : ¬ s.getD (b + 1) 0 ≠ 62 := by
      have z' : (s.getD (b + 1) 0 != 62) = false := b62'.symm.trans z
      simpa using z'
    obtain ⟨q1, q2⟩ := cut_cutL s (show tag ≤ b + 1 + 1 by omega) (by omega)
    rw [q1, tagEnd_yes x, if_neg y, if_neg z]
    exact gAnd_intro q2 rfl
  · exfalso
    have : (b : Int) = s.length := by simpa using y
    omega
  · have x : ¬ s.getD b 0 = 47 := by simpa using x
    have z : s.getD b 0 ≠ 62 := by simpa using b62.symm.trans z
    rw [tagEnd_no x, if_neg (by omega), if_pos z]
    simp only [if_neg x]
    rfl
  · have x : ¬ s.getD b 0 = 47 := by simpa using x
    have z : ¬ s.getD b 0 ≠ 62 := by
      have z' : (s.getD b 0 != 62) = false := b62.symm.trans z
      simpa using z'
    obtain ⟨q1, q2⟩ := cut_cutL s (show tag ≤ b + 1 by omega) (by omega)
    rw [q1, tagEnd_no x, if_neg (by omega), if_neg z]
    exact gAnd_intro q2 rfl
theorem contV_eq (s nm : List UInt8) (tag f a : Nat) (l : List Att) : contV s nm tag (f + 1) a l =
    if s.length ≤ past s a then .tup [.agg (encT ⟨2, nm, l, [], tag, 0⟩), .int .i64 tag, .int .i64 14] else
    if s.getD (past s a) 0 = 62 ∨ s.getD (past s a) 0 = 47 then endV s nm tag l (past s a) else
    if past s a = a then .tup [.agg (encT ⟨2, nm, l, [], tag, 0⟩), .int .i64 a, .int .i64 12] else
    match attrM s (past s a) tag l with
    | .error (p, e) => .tup [.agg (encT ⟨2, nm, l, [], tag, 0⟩), .int .i64 p, .int .i64 e]
    | .ok (x, b) => contV s nm tag f b (l ++ [x]) := by
  unfold contV
  rw [attrsM, attrsP]
  by_cases h1 : s.length ≤ past s a
  · simp only [if_pos h1]
  · simp only [if_neg h1]
    by_cases h2 : s.getD (past s a) 0 = 62 ∨ s.getD (past s a) 0 = 47
    · simp only [if_pos h2]
    · simp only [if_neg h2]
      by_cases h3 : past s a = a
      · simp only [if_pos h3]
      · simp only [if_neg h3]
        cases attrM s (past s a) tag l with
        | error x => rfl
        | ok x => rfl
theorem loop30 {s nm : List UInt8} {tag : Nat} (hs : s.length ≤ limE) : ∀ (f a : Nat) (l : List Att), s.length - a < f → tag ≤ a → a ≤ s.length → l.length ≤ a →
    ToEnd cfg2 30 (bodyOf Tryd.f30) (RetIs Tryd.prog Tryd.f30 (contV s nm tag f a l)) [.code [0, 0, 1, 1, 1, 1, 1], .block 0, .code [1, 1, 1, 1, 1, 1]] .normal [(0, true, .str s), (1, true, .int .i64 tag), (4, true, .ptr 1 0), (8, true, .ptr 4 0), (9, true, .int .i64 a)] (hO nm tag l)
  | 0, a, l, hf, _, _, _ => by omega
  | f + 1, a, l, hf, hta, ha, hl => by
    have hs' : s.length ≤ 1000000 := hs
    obtain ⟨p1, p2⟩ := past_le ha
    rw [contV_eq]
    have b62 : (((s.getD (past s a) 0).toNat : Int) == 62) = (s.getD (past s a) 0 == 62) := byte_is _ 62 (by omega)
    have b47 : (((s.getD (past s a) 0).toNat : Int) == 47) = (s.getD (past s a) 0 == 47) := byte_is _ 47 (by omega)
    refine t30a tab30 ⟨s, a, hs, ha, rfl, ?_⟩
    simp only [strip_as]
    refine ifP_intro (fun x => ?_) fun x => gAnd_intro (inR_nat (by simp at x; omega)) ?_
    · rw [if_pos (by simp at x; omega)]
      rfl
    have h1 : ¬ s.length ≤ past s a := by simp at x; omega
    rw [if_neg h1]
    show ifP (((s.getD (past s a) 0).toNat : Int) == 62) _ _
    rw [b62]
    refine ifP_intro (fun y => ?_) fun y => gAnd_intro (inR_nat (by omega)) ?_
    · have y : s.getD (past s a) 0 = 62 := by simpa using y
      rw [if_pos (.inl y)]
      exact end30 hs (by omega) (by omega)
    show ifP (((s.getD (past s a) 0).toNat : Int) == 47) _ _
    rw [b47]
    refine ifP_intro (fun z => ?_) fun z => ?_
    · have z : s.getD (past s a) 0 = 47 := by simpa using z
      rw [if_pos (.inr z)]
      exact end30 hs (by omega) (by omega)
    have h2 : ¬ (s.getD (past s a) 0 = 62 ∨ s.getD (past s a) 0 = 47) := by
      have y : ¬ s.getD (past s a) 0 = 62 := by simpa using y
      have z : ¬ s.getD (past s a) 0 = 47 := by simpa using z
      rintro (h | h)
      · exact y h
      · exact z h
    rw [if_neg h2]
    refine ifP_intro (fun u => ?_) fun u => ?_
    · rw [if_pos (by simp at u; omega)]
      rfl
    have h3 : ¬ past s a = a := by simp at u; omega
    rw [if_neg h3]
    refine ⟨s, past s a, tag, l, hs, by omega, by omega, by omega, rfl, fun p e he x => ?_, fun x b hx => ?_⟩
    · rw [he]
      refine ifP_intro (fun _ => ?_) fun w => absurd (by simpa using w) (attrM_e he)
      rfl
    · obtain ⟨q1, q2⟩ := attrM_ok hx
      have hle : (encAs l).length = l.length := by simp [encAs]
      rw [hx]
      refine gAnd_intro ?_ (gAnd_intro ?_ ?_)
      · simp only [tagOk, List.getElem?_cons_succ, List.getElem?_cons_zero, Nat.beq_refl, Bool.and_self, Bool.true_and, Bool.and_true]
        exact decide_eq_true (by omega)
      · have := low_as 5 (l ++ [x])
        rw [show encAs (l ++ [x]) = encAs l ++ [[AV.str x.name, AV.str x.value, AV.int .i64 x.at']] by simp [encAs, encA]] at this
        rw [this]; rfl
      · have ih := loop30 (nm := nm) (tag := tag) hs f b (l ++ [x]) (by omega) (by omega) q2 (by simp; omega)
        unfold hO at ih
        rw [show encAs (l ++ [x]) = encAs l ++ [[AV.str x.name, AV.str x.value, AV.int .i64 x.at']] by simp [encAs, encA]] at ih
        rw [List.length_append] at ih
        exact ih
theorem run30 {s : List UInt8} {tag : Nat} (hs : s.length ≤ limE) (ht : tag + 5 ≤ s.length) : ToEnd cfg2 30 (bodyOf Tryd.f30) (RetIs Tryd.prog Tryd.f30 (openV s tag)) [.code []] .normal [(0, true, .str s), (1, true, .int .i64 tag)] [] := by
  have hs' : s.length ≤ 1000000 := hs
  have hn := lets_le s (tag + 5)
  have w1 : IntKind.wrap .i64 ((tag : Int) + 5) = ((tag + 5 : Nat) : Int) := wr (by omega) (by omega)
  have w2 : IntKind.wrap .i64 (((tag + 5 : Nat) : Int) + ((lets s (tag + 5) : Nat) : Int)) = ((tag + 5 + lets s (tag + 5) : Nat) : Int) := wr (by omega) (by omega)
  obtain ⟨q1, q2⟩ := cut_cutL s (show tag + 5 ≤ tag + 5 + lets s (tag + 5) by omega) (by omega)
  have hcut : cut s (tag + 5) (tag + 5 + lets s (tag + 5)) = (s.drop (tag + 5)).take (lets s (tag + 5)) := by unfold cut; rw [Nat.add_sub_cancel_left]
  refine t30 tab30 ⟨s, tag + 5, hs, ht, by rw [w1], ?_⟩
  rw [w1, w2, q1, hcut]
  refine gAnd_intro q2 ⟨_, rfl, ifP_intro (fun x => ?_) fun x => ?_⟩
  · have x : knownB ((s.drop (tag + 5)).take (lets s (tag + 5))) = false := by simpa using x
    unfold openV
    rw [if_pos x]
    rfl
  · have x : ¬ knownB ((s.drop (tag + 5)).take (lets s (tag + 5))) = false := by simpa using x
    unfold openV
    rw [if_neg x]
    exact loop30 hs (s.length + 1) (tag + 5 + lets s (tag + 5)) [] (by omega) (by omega) (by omega) (by simp)
theorem c30 : COk cfg2 30 openRC := by
  refine cok_pure pf30 fun vs h K ht => ?_
  obtain ⟨s, tag, hs, htg, rfl, h1, h2⟩ := ht
  refine ⟨openV s tag, ?_, run30 hs htg⟩
  unfold openV
  unfold openM openE at h1
  unfold openM at h2
  simp only at h1 h2
  by_cases hk : knownB ((s.drop (tag + 5)).take (lets s (tag + 5))) = false
  · simp only [if_pos hk] at h1 ⊢
    exact h1 _ _ rfl
  · simp only [if_neg hk] at h1 h2 ⊢
    unfold contV
    cases ha : attrsM s tag (s.length + 1) (tag + 5 + lets s (tag + 5)) [] with
    | error x =>
      obtain ⟨p, e⟩ := x
      rw [ha] at h1
      exact h1 p e rfl
    | ok x =>
      obtain ⟨l, b⟩ := x
      rw [ha] at h1 h2
      simp only at h1 h2 ⊢
      unfold endV
      cases he : tagEnd s tag ((s.drop (tag + 5)).take (lets s (tag + 5))) l b with
      | error x => obtain ⟨p, e⟩ := x; exact h1 p e he
      | ok t => exact h2 t he
end Go.Proofs.YtolmmodgneodbaaDoor
end

section
namespace Go.Proofs.YtolmmodgneodbaaDoor
open Go.Ai Go Go.Ai.Ex
set_option maxRecDepth 100000
set_option linter.unusedVariables false
theorem t19 {v : AV} {s : List UInt8} {a : Int} {hid : Bool} (hT : TabOk cfg2 (ctab [(28, HasC), (30, openRC), (31, fndC), (32, closedC), (29, hidesC)])) (H :
    ∃ (s1 : List UInt8),
  ∃ (x2 : List UInt8),
    ∃ (a3 : Nat),
      x2 ≠ [] ∧
        List.length s1 ≤ 1000000 ∧
          List.length x2 ≤ 1000000 ∧
            a3 ≤ 1000000 ∧
              [AV.str s, AV.int IntKind.i64 a, AV.str [60, 101, 115, 105, 58]] = [AV.str s1, AV.int IntKind.i64 (↑a3 : Int), AV.str x2] ∧
                ifP (has s1 x2 a3)
                  (∃ (s4 : List UInt8),
                    ∃ (tag5 : Nat),
                      List.length s4 ≤ 1000000 ∧
                        tag5 + 5 ≤ List.length s4 ∧
                          [AV.str s, AV.int IntKind.i64 a] = [AV.str s4, AV.int IntKind.i64 (↑tag5 : Int)] ∧
                            (∀ (p6 : Nat) (e7 : Int),
                                openM s4 tag5 = Except.error (p6, e7) →
                                  ifP (e7 != 0) (AV.tup [AV.sl 6 [[AV.int IntKind.i64 (Tok.kind (openE s4 tag5)), AV.str (Tok.name (openE s4 tag5)), AV.sl 3 (stripss 0 [Blk.grow 0 6 33, Blk.grow 0 3 40, Blk.mem 33 [AV.int IntKind.i64 (Tok.kind (openE s4 tag5)), AV.str (Tok.name (openE s4 tag5)), AV.sl 3 (encAs (Tok.attrs (openE s4 tag5))) none, AV.str (Tok.text (openE s4 tag5)), AV.int IntKind.i64 (↑(Tok.fr (openE s4 tag5)) : Int), AV.int IntKind.i64 (↑(Tok.to (openE s4 tag5)) : Int)], Blk.grow 1 6 33] (encAs (Tok.attrs (openE s4 tag5)))) none, AV.str (Tok.text (openE s4 tag5)), AV.int IntKind.i64 (↑(Tok.fr (openE s4 tag5)) : Int), AV.int IntKind.i64 (↑(Tok.to (openE s4 tag5)) : Int)]] none, AV.int IntKind.i64 (↑p6 : Int), AV.int IntKind.i64 e7] = v)
                                    (ifP (Tok.kind (openE s4 tag5) == 3) (AV.tup [AV.sl 6 [[AV.int IntKind.i64 (Tok.kind (openE s4 tag5)), AV.str (Tok.name (openE s4 tag5)), AV.sl 3 (stripss 0 [Blk.grow 0 6 33, Blk.grow 0 3 40, Blk.mem 33 [AV.int IntKind.i64 (Tok.kind (openE s4 tag5)), AV.str (Tok.name (openE s4 tag5)), AV.sl 3 (encAs (Tok.attrs (openE s4 tag5))) none, AV.str (Tok.text (openE s4 tag5)), AV.int IntKind.i64 (↑(Tok.fr (openE s4 tag5)) : Int), AV.int IntKind.i64 (↑(Tok.to (openE s4 tag5)) : Int)], Blk.grow 1 6 33] (encAs (Tok.attrs (openE s4 tag5)))) none, AV.str (Tok.text (openE s4 tag5)), AV.int IntKind.i64 (↑(Tok.fr (openE s4 tag5)) : Int), AV.int IntKind.i64 (↑(Tok.to (openE s4 tag5)) : Int)]] none, AV.int IntKind.i64 (↑p6 : Int), AV.int IntKind.i64 e7] = v)
                                      (ifP (!Tok.name (openE s4 tag5) == [114, 101, 109, 111, 118, 101])
                                        (ifP (!Tok.name (openE s4 tag5) == [105, 110, 108, 105, 110, 101]) (AV.tup [AV.sl 6 [[AV.int IntKind.i64 (Tok.kind (openE s4 tag5)), AV.str (Tok.name (openE s4 tag5)), AV.sl 3 (stripss 0 [Blk.grow 0 6 33, Blk.grow 0 3 40, Blk.mem 33 [AV.int IntKind.i64 (Tok.kind (openE s4 tag5)), AV.str (Tok.name (openE s4 tag5)), AV.sl 3 (encAs (Tok.attrs (openE s4 tag5))) none, AV.str (Tok.text (openE s4 tag5)), AV.int IntKind.i64 (↑(Tok.fr (openE s4 tag5)) : Int), AV.int IntKind.i64 (↑(Tok.to (openE s4 tag5)) : Int)], Blk.grow 1 6 33] (encAs (Tok.attrs (openE s4 tag5)))) none, AV.str (Tok.text (openE s4 tag5)), AV.int IntKind.i64 (↑(Tok.fr (openE s4 tag5)) : Int), AV.int IntKind.i64 (↑(Tok.to (openE s4 tag5)) : Int)]] none, AV.int IntKind.i64 (↑p6 : Int), AV.int IntKind.i64 e7] = v)
                                          (gAnd (decide (6 + List.length (Tok.name (openE s4 tag5)) ≤ 9223372036854775807)) (∃ (s9 : List UInt8), ∃ (x10 : List UInt8), ∃ (a11 : Nat), x10 ≠ [] ∧ List.length s9 ≤ 1000000 ∧ List.length x10 ≤ 1000000 ∧ a11 ≤ List.length s9 ∧ [AV.str s, AV.int IntKind.i64 (↑(Tok.to (openE s4 tag5)) : Int), AV.str (60 :: 47 :: 101 :: 115 :: 105 :: 58 :: List.append [] (Tok.name (openE s4 tag5)))] = [AV.str s9, AV.int IntKind.i64 (↑a11 : Int), AV.str x10] ∧ ifP (decide (findR s9 x10 a11 < 0)) (AV.tup [AV.sl 6 [] none, AV.int IntKind.i64 a, AV.int IntKind.i64 14] = v) (gAnd (cutOb (List.length s) none (some (findR s9 x10 a11))) (∃ (s12 : List UInt8), ∃ (x13 : List UInt8), ∃ (a14 : Nat), x13 ≠ [] ∧ List.length s12 ≤ 1000000 ∧ List.length x13 ≤ 1000000 ∧ a14 ≤ List.length s12 ∧ [AV.str (cutL s none (some (findR s9 x10 a11))), AV.int IntKind.i64 (↑(Tok.to (openE s4 tag5)) : Int), AV.str [60, 101, 115, 105, 58]] = [AV.str s12, AV.int IntKind.i64 (↑a14 : Int), AV.str x13] ∧ ifP (Tok.name (openE s4 tag5) == [114, 101, 109, 111, 118, 101]) (ifP (decide (findR s12 x13 a14 ≥ 0)) (AV.tup [AV.sl 6 [] none, AV.int IntKind.i64 (findR s12 x13 a14), AV.int IntKind.i64 13] = v) (gAnd (cutOb (List.length s) (some (↑(Tok.to (openE s4 tag5)) : Int)) (some (findR s9 x10 a11))) (AV.tup [AV.sl 6 [[AV.int IntKind.i64 (Tok.kind (openE s4 tag5)), AV.str (Tok.name (openE s4 tag5)), AV.sl 3 (stripss 0 [Blk.grow 0 6 33, Blk.grow 0 3 40, Blk.mem 33 [AV.int IntKind.i64 (Tok.kind (openE s4 tag5)), AV.str (Tok.name (openE s4 tag5)), AV.sl 3 (encAs (Tok.attrs (openE s4 tag5))) none, AV.str (Tok.text (openE s4 tag5)), AV.int IntKind.i64 (↑(Tok.fr (openE s4 tag5)) : Int), AV.int IntKind.i64 (↑(Tok.to (openE s4 tag5)) : Int)]] (encAs (Tok.attrs (openE s4 tag5)))) none, AV.str (Tok.text (openE s4 tag5)), AV.int IntKind.i64 (↑(Tok.fr (openE s4 tag5)) : Int), AV.int IntKind.i64 (↑(Tok.to (openE s4 tag5)) : Int)], [AV.int IntKind.i64 7, AV.str [], AV.sl 0 [] none, AV.str (cutL s (some (↑(Tok.to (openE s4 tag5)) : Int)) (some (findR s9 x10 a11))), AV.int IntKind.i64 (↑(Tok.to (openE s4 tag5)) : Int), AV.int IntKind.i64 (findR s9 x10 a11)]] none, AV.int IntKind.i64 0, AV.int IntKind.i64 0] = v))) (gAnd (cutOb (List.length s) (some (↑(Tok.to (openE s4 tag5)) : Int)) (some (findR s9 x10 a11))) (AV.tup [AV.sl 6 [[AV.int IntKind.i64 (Tok.kind (openE s4 tag5)), AV.str (Tok.name (openE s4 tag5)), AV.sl 3 (stripss 0 [Blk.grow 0 6 33, Blk.grow 0 3 40, Blk.mem 33 [AV.int IntKind.i64 (Tok.kind (openE s4 tag5)), AV.str (Tok.name (openE s4 tag5)), AV.sl 3 (encAs (Tok.attrs (openE s4 tag5))) none, AV.str (Tok.text (openE s4 tag5)), AV.int IntKind.i64 (↑(Tok.fr (openE s4 tag5)) : Int), AV.int IntKind.i64 (↑(Tok.to (openE s4 tag5)) : Int)]] (encAs (Tok.attrs (openE s4 tag5)))) none, AV.str (Tok.text (openE s4 tag5)), AV.int IntKind.i64 (↑(Tok.fr (openE s4 tag5)) : Int), AV.int IntKind.i64 (↑(Tok.to (openE s4 tag5)) : Int)], [AV.int IntKind.i64 7, AV.str [], AV.sl 0 [] none, AV.str (cutL s (some (↑(Tok.to (openE s4 tag5)) : Int)) (some (findR s9 x10 a11))), AV.int IntKind.i64 (↑(Tok.to (openE s4 tag5)) : Int), AV.int IntKind.i64 (findR s9 x10 a11)]] none, AV.int IntKind.i64 0, AV.int IntKind.i64 0] = v)))))))
                                        (gAnd (decide (6 + List.length (Tok.name (openE s4 tag5)) ≤ 9223372036854775807)) (∃ (s15 : List UInt8), ∃ (x16 : List UInt8), ∃ (a17 : Nat), x16 ≠ [] ∧ List.length s15 ≤ 1000000 ∧ List.length x16 ≤ 1000000 ∧ a17 ≤ List.length s15 ∧ [AV.str s, AV.int IntKind.i64 (↑(Tok.to (openE s4 tag5)) : Int), AV.str (60 :: 47 :: 101 :: 115 :: 105 :: 58 :: List.append [] (Tok.name (openE s4 tag5)))] = [AV.str s15, AV.int IntKind.i64 (↑a17 : Int), AV.str x16] ∧ ifP (decide (findR s15 x16 a17 < 0)) (AV.tup [AV.sl 6 [] none, AV.int IntKind.i64 a, AV.int IntKind.i64 14] = v) (gAnd (cutOb (List.length s) none (some (findR s15 x16 a17))) (∃ (s18 : List UInt8), ∃ (x19 : List UInt8), ∃ (a20 : Nat), x19 ≠ [] ∧ List.length s18 ≤ 1000000 ∧ List.length x19 ≤ 1000000 ∧ a20 ≤ List.length s18 ∧ [AV.str (cutL s none (some (findR s15 x16 a17))), AV.int IntKind.i64 (↑(Tok.to (openE s4 tag5)) : Int), AV.str [60, 101, 115, 105, 58]] = [AV.str s18, AV.int IntKind.i64 (↑a20 : Int), AV.str x19] ∧ ifP (Tok.name (openE s4 tag5) == [114, 101, 109, 111, 118, 101]) (ifP (decide (findR s18 x19 a20 ≥ 0)) (AV.tup [AV.sl 6 [] none, AV.int IntKind.i64 (findR s18 x19 a20), AV.int IntKind.i64 13] = v) (gAnd (cutOb (List.length s) (some (↑(Tok.to (openE s4 tag5)) : Int)) (some (findR s15 x16 a17))) (AV.tup [AV.sl 6 [[AV.int IntKind.i64 (Tok.kind (openE s4 tag5)), AV.str (Tok.name (openE s4 tag5)), AV.sl 3 (stripss 0 [Blk.grow 0 6 33, Blk.grow 0 3 40, Blk.mem 33 [AV.int IntKind.i64 (Tok.kind (openE s4 tag5)), AV.str (Tok.name (openE s4 tag5)), AV.sl 3 (encAs (Tok.attrs (openE s4 tag5))) none, AV.str (Tok.text (openE s4 tag5)), AV.int IntKind.i64 (↑(Tok.fr (openE s4 tag5)) : Int), AV.int IntKind.i64 (↑(Tok.to (openE s4 tag5)) : Int)]] (encAs (Tok.attrs (openE s4 tag5)))) none, AV.str (Tok.text (openE s4 tag5)), AV.int IntKind.i64 (↑(Tok.fr (openE s4 tag5)) : Int), AV.int IntKind.i64 (↑(Tok.to (openE s4 tag5)) : Int)], [AV.int IntKind.i64 7, AV.str [], AV.sl 0 [] none, AV.str (cutL s (some (↑(Tok.to (openE s4 tag5)) : Int)) (some (findR s15 x16 a17))), AV.int IntKind.i64 (↑(Tok.to (openE s4 tag5)) : Int), AV.int IntKind.i64 (findR s15 x16 a17)]] none, AV.int IntKind.i64 0, AV.int IntKind.i64 0] = v))) (gAnd (cutOb (List.length s) (some (↑(Tok.to (openE s4 tag5)) : Int)) (some (findR s15 x16 a17))) (AV.tup [AV.sl 6 [[AV.int IntKind.i64 (Tok.kind (openE s4 tag5)), AV.str (Tok.name (openE s4 tag5)), AV.sl 3 (stripss 0 [Blk.grow 0 6 33, Blk.grow 0 3 40, Blk.mem 33 [AV.int IntKind.i64 (Tok.kind (openE s4 tag5)), AV.str (Tok.name (openE s4 tag5)), AV.sl 3 (encAs (Tok.attrs (openE s4 tag5))) none, AV.str (Tok.text (openE s4 tag5)), AV.int IntKind.i64 (↑(Tok.fr (openE s4 tag5)) : Int), AV.int IntKind.i64 (↑(Tok.to (openE s4 tag5)) : Int)]] (encAs (Tok.attrs (openE s4 tag5)))) none, AV.str (Tok.text (openE s4 tag5)), AV.int IntKind.i64 (↑(Tok.fr (openE s4 tag5)) : Int), AV.int IntKind.i64 (↑(Tok.to (openE s4 tag5)) : Int)], [AV.int IntKind.i64 7, AV.str [], AV.sl 0 [] none, AV.str (cutL s (some (↑(Tok.to (openE s4 tag5)) : Int)) (some (findR s15 x16 a17))), AV.int IntKind.i64 (↑(Tok.to (openE s4 tag5)) : Int), AV.int IntKind.i64 (findR s15 x16 a17)]] none, AV.int IntKind.i64 0, AV.int IntKind.i64 0] = v))))))))) ∧
                              ∀ (t21 : Tok),
                                openM s4 tag5 = Except.ok t21 →
                                  ifP (Tok.kind t21 == 3) (AV.tup [AV.sl 6 [[AV.int IntKind.i64 (Tok.kind t21), AV.str (Tok.name t21), AV.sl 3 (stripss 0 [Blk.grow 0 6 33, Blk.grow 0 3 40, Blk.mem 33 [AV.int IntKind.i64 (Tok.kind t21), AV.str (Tok.name t21), AV.sl 3 (encAs (Tok.attrs t21)) none, AV.str (Tok.text t21), AV.int IntKind.i64 (↑(Tok.fr t21) : Int), AV.int IntKind.i64 (↑(Tok.to t21) : Int)], Blk.grow 1 6 33] (encAs (Tok.attrs t21))) none, AV.str (Tok.text t21), AV.int IntKind.i64 (↑(Tok.fr t21) : Int), AV.int IntKind.i64 (↑(Tok.to t21) : Int)]] none, AV.int IntKind.i64 0, AV.int IntKind.i64 0] = v)
                                    (ifP (!Tok.name t21 == [114, 101, 109, 111, 118, 101]) (ifP (!Tok.name t21 == [105, 110, 108, 105, 110, 101]) (AV.tup [AV.sl 6 [[AV.int IntKind.i64 (Tok.kind t21), AV.str (Tok.name t21), AV.sl 3 (stripss 0 [Blk.grow 0 6 33, Blk.grow 0 3 40, Blk.mem 33 [AV.int IntKind.i64 (Tok.kind t21), AV.str (Tok.name t21), AV.sl 3 (encAs (Tok.attrs t21)) none, AV.str (Tok.text t21), AV.int IntKind.i64 (↑(Tok.fr t21) : Int), AV.int IntKind.i64 (↑(Tok.to t21) : Int)], Blk.grow 1 6 33] (encAs (Tok.attrs t21))) none, AV.str (Tok.text t21), AV.int IntKind.i64 (↑(Tok.fr t21) : Int), AV.int IntKind.i64 (↑(Tok.to t21) : Int)]] none, AV.int IntKind.i64 0, AV.int IntKind.i64 0] = v) (gAnd (decide (6 + List.length (Tok.name t21) ≤ 9223372036854775807)) (∃ (s23 : List UInt8), ∃ (x24 : List UInt8), ∃ (a25 : Nat), x24 ≠ [] ∧ List.length s23 ≤ 1000000 ∧ List.length x24 ≤ 1000000 ∧ a25 ≤ List.length s23 ∧ [AV.str s, AV.int IntKind.i64 (↑(Tok.to t21) : Int), AV.str (60 :: 47 :: 101 :: 115 :: 105 :: 58 :: List.append [] (Tok.name t21))] = [AV.str s23, AV.int IntKind.i64 (↑a25 : Int), AV.str x24] ∧ ifP (decide (findR s23 x24 a25 < 0)) (AV.tup [AV.sl 6 [] none, AV.int IntKind.i64 a, AV.int IntKind.i64 14] = v) (gAnd (cutOb (List.length s) none (some (findR s23 x24 a25))) (∃ (s26 : List UInt8), ∃ (x27 : List UInt8), ∃ (a28 : Nat), x27 ≠ [] ∧ List.length s26 ≤ 1000000 ∧ List.length x27 ≤ 1000000 ∧ a28 ≤ List.length s26 ∧ [AV.str (cutL s none (some (findR s23 x24 a25))), AV.int IntKind.i64 (↑(Tok.to t21) : Int), AV.str [60, 101, 115, 105, 58]] = [AV.str s26, AV.int IntKind.i64 (↑a28 : Int), AV.str x27] ∧ ifP (Tok.name t21 == [114, 101, 109, 111, 118, 101]) (ifP (decide (findR s26 x27 a28 ≥ 0)) (AV.tup [AV.sl 6 [] none, AV.int IntKind.i64 (findR s26 x27 a28), AV.int IntKind.i64 13] = v) (gAnd (cutOb (List.length s) (some (↑(Tok.to t21) : Int)) (some (findR s23 x24 a25))) (AV.tup [AV.sl 6 [[AV.int IntKind.i64 (Tok.kind t21), AV.str (Tok.name t21), AV.sl 3 (stripss 0 [Blk.grow 0 6 33, Blk.grow 0 3 40, Blk.mem 33 [AV.int IntKind.i64 (Tok.kind t21), AV.str (Tok.name t21), AV.sl 3 (encAs (Tok.attrs t21)) none, AV.str (Tok.text t21), AV.int IntKind.i64 (↑(Tok.fr t21) : Int), AV.int IntKind.i64 (↑(Tok.to t21) : Int)]] (encAs (Tok.attrs t21))) none, AV.str (Tok.text t21), AV.int IntKind.i64 (↑(Tok.fr t21) : Int), AV.int IntKind.i64 (↑(Tok.to t21) : Int)], [AV.int IntKind.i64 7, AV.str [], AV.sl 0 [] none, AV.str (cutL s (some (↑(Tok.to t21) : Int)) (some (findR s23 x24 a25))), AV.int IntKind.i64 (↑(Tok.to t21) : Int), AV.int IntKind.i64 (findR s23 x24 a25)]] none, AV.int IntKind.i64 0, AV.int IntKind.i64 0] = v))) (gAnd (cutOb (List.length s) (some (↑(Tok.to t21) : Int)) (some (findR s23 x24 a25))) (AV.tup [AV.sl 6 [[AV.int IntKind.i64 (Tok.kind t21), AV.str (Tok.name t21), AV.sl 3 (stripss 0 [Blk.grow 0 6 33, Blk.grow 0 3 40, Blk.mem 33 [AV.int IntKind.i64 (Tok.kind t21), AV.str (Tok.name t21), AV.sl 3 (encAs (Tok.attrs t21)) none, AV.str (Tok.text t21), AV.int IntKind.i64 (↑(Tok.fr t21) : Int), AV.int IntKind.i64 (↑(Tok.to t21) : Int)]] (encAs (Tok.attrs t21))) none, AV.str (Tok.text t21), AV.int IntKind.i64 (↑(Tok.fr t21) : Int), AV.int IntKind.i64 (↑(Tok.to t21) : Int)], [AV.int IntKind.i64 7, AV.str [], AV.sl 0 [] none, AV.str (cutL s (some (↑(Tok.to t21) : Int)) (some (findR s23 x24 a25))), AV.int IntKind.i64 (↑(Tok.to t21) : Int), AV.int IntKind.i64 (findR s23 x24 a25)]] none, AV.int IntKind.i64 0, AV.int IntKind.i64 0] = v)))))))
                                      (gAnd (decide (6 + List.length (Tok.name t21) ≤ 9223372036854775807)) (∃ (s29 : List UInt8), ∃ (x30 : List UInt8), ∃ (a31 : Nat), x30 ≠ [] ∧ List.length s29 ≤ 1000000 ∧ List.length x30 ≤ 1000000 ∧ a31 ≤ List.length s29 ∧ [AV.str s, AV.int IntKind.i64 (↑(Tok.to t21) : Int), AV.str (60 :: 47 :: 101 :: 115 :: 105 :: 58 :: List.append [] (Tok.name t21))] = [AV.str s29, AV.int IntKind.i64 (↑a31 : Int), AV.str x30] ∧ ifP (decide (findR s29 x30 a31 < 0)) (AV.tup [AV.sl 6 [] none, AV.int IntKind.i64 a, AV.int IntKind.i64 14] = v) (gAnd (cutOb (List.length s) none (some (findR s29 x30 a31))) (∃ (s32 : List UInt8), ∃ (x33 : List UInt8), ∃ (a34 : Nat), x33 ≠ [] ∧ List.length s32 ≤ 1000000 ∧ List.length x33 ≤ 1000000 ∧ a34 ≤ List.length s32 ∧ [AV.str (cutL s none (some (findR s29 x30 a31))), AV.int IntKind.i64 (↑(Tok.to t21) : Int), AV.str [60, 101, 115, 105, 58]] = [AV.str s32, AV.int IntKind.i64 (↑a34 : Int), AV.str x33] ∧ ifP (Tok.name t21 == [114, 101, 109, 111, 118, 101]) (ifP (decide (findR s32 x33 a34 ≥ 0)) (AV.tup [AV.sl 6 [] none, AV.int IntKind.i64 (findR s32 x33 a34), AV.int IntKind.i64 13] = v) (gAnd (cutOb (List.length s) (some (↑(Tok.to t21) : Int)) (some (findR s29 x30 a31))) (AV.tup [AV.sl 6 [[AV.int IntKind.i64 (Tok.kind t21), AV.str (Tok.name t21), AV.sl 3 (stripss 0 [Blk.grow 0 6 33, Blk.grow 0 3 40, Blk.mem 33 [AV.int IntKind.i64 (Tok.kind t21), AV.str (Tok.name t21), AV.sl 3 (encAs (Tok.attrs t21)) none, AV.str (Tok.text t21), AV.int IntKind.i64 (↑(Tok.fr t21) : Int), AV.int IntKind.i64 (↑(Tok.to t21) : Int)]] (encAs (Tok.attrs t21))) none, AV.str (Tok.text t21), AV.int IntKind.i64 (↑(Tok.fr t21) : Int), AV.int IntKind.i64 (↑(Tok.to t21) : Int)], [AV.int IntKind.i64 7, AV.str [], AV.sl 0 [] none, AV.str (cutL s (some (↑(Tok.to t21) : Int)) (some (findR s29 x30 a31))), AV.int IntKind.i64 (↑(Tok.to t21) : Int), AV.int IntKind.i64 (findR s29 x30 a31)]] none, AV.int IntKind.i64 0, AV.int IntKind.i64 0] = v))) (gAnd (cutOb (List.length s) (some (↑(Tok.to t21) : Int)) (some (findR s29 x30 a31))) (AV.tup [AV.sl 6 [[AV.int IntKind.i64 (Tok.kind t21), AV.str (Tok.name t21), AV.sl 3 (stripss 0 [Blk.grow 0 6 33, Blk.grow 0 3 40, Blk.mem 33 [AV.int IntKind.i64 (Tok.kind t21), AV.str (Tok.name t21), AV.sl 3 (encAs (Tok.attrs t21)) none, AV.str (Tok.text t21), AV.int IntKind.i64 (↑(Tok.fr t21) : Int), AV.int IntKind.i64 (↑(Tok.to t21) : Int)]] (encAs (Tok.attrs t21))) none, AV.str (Tok.text t21), AV.int IntKind.i64 (↑(Tok.fr t21) : Int), AV.int IntKind.i64 (↑(Tok.to t21) : Int)], [AV.int IntKind.i64 7, AV.str [], AV.sl 0 [] none, AV.str (cutL s (some (↑(Tok.to t21) : Int)) (some (findR s29 x30 a31))), AV.int IntKind.i64 (↑(Tok.to t21) : Int), AV.int IntKind.i64 (findR s29 x30 a31)]] none, AV.int IntKind.i64 0, AV.int IntKind.i64 0] = v))))))))
                  (∃ (s35 : List UInt8), ∃ (x36 : List UInt8), ∃ (a37 : Nat), x36 ≠ [] ∧ List.length s35 ≤ 1000000 ∧ List.length x36 ≤ 1000000 ∧ a37 ≤ 1000000 ∧ [AV.str s, AV.int IntKind.i64 a, AV.str [60, 47, 101, 115, 105, 58]] = [AV.str s35, AV.int IntKind.i64 (↑a37 : Int), AV.str x36] ∧ ifP (has s35 x36 a37) (∃ (s38 : List UInt8), ∃ (tag39 : Nat), List.length s38 ≤ 1000000 ∧ tag39 + 6 ≤ List.length s38 ∧ [AV.str s, AV.int IntKind.i64 a] = [AV.str s38, AV.int IntKind.i64 (↑tag39 : Int)] ∧ (∀ (p40 : Nat) (e41 : Int), closeM s38 tag39 = Except.error (p40, e41) → AV.tup [AV.sl 6 [[AV.int IntKind.i64 (Tok.kind (closedE s38 tag39)), AV.str (Tok.name (closedE s38 tag39)), AV.sl 3 [] none, AV.str [], AV.int IntKind.i64 (↑(Tok.fr (closedE s38 tag39)) : Int), AV.int IntKind.i64 (↑(Tok.to (closedE s38 tag39)) : Int)]] none, AV.int IntKind.i64 (↑p40 : Int), AV.int IntKind.i64 e41] = v) ∧ ∀ (t43 : Tok), closeM s38 tag39 = Except.ok t43 → AV.tup [AV.sl 6 [[AV.int IntKind.i64 (Tok.kind t43), AV.str (Tok.name t43), AV.sl 3 (stripss 0 [Blk.grow 0 6 33, Blk.grow 0 3 40, Blk.mem 33 [AV.int IntKind.i64 (Tok.kind t43), AV.str (Tok.name t43), AV.sl 3 (encAs (Tok.attrs t43)) none, AV.str (Tok.text t43), AV.int IntKind.i64 (↑(Tok.fr t43) : Int), AV.int IntKind.i64 (↑(Tok.to t43) : Int)], Blk.grow 1 6 33] (encAs (Tok.attrs t43))) none, AV.str (Tok.text t43), AV.int IntKind.i64 (↑(Tok.fr t43) : Int), AV.int IntKind.i64 (↑(Tok.to t43) : Int)]] none, AV.int IntKind.i64 0, AV.int IntKind.i64 0] = v) (∃ (s45 : List UInt8), ∃ (a46 : Nat), List.length s45 ≤ 1000000 ∧ a46 ≤ 1000000 ∧ [AV.str s, AV.int IntKind.i64 a] = [AV.str s45, AV.int IntKind.i64 (↑a46 : Int)] ∧ ifP (hideB s45 a46) (ifP hid (AV.tup [AV.sl 6 [] none, AV.int IntKind.i64 a, AV.int IntKind.i64 13] = v) (gAnd (cutOb (List.length s) (some a) (some (IntKind.wrap IntKind.i64 (a + 8)))) (AV.tup [AV.sl 6 [[AV.int IntKind.i64 5, AV.str [], AV.sl 3 [] none, AV.str (cutL s (some a) (some (IntKind.wrap IntKind.i64 (a + 8)))), AV.int IntKind.i64 a, AV.int IntKind.i64 (IntKind.wrap IntKind.i64 (a + 8))]] none, AV.int IntKind.i64 0, AV.int IntKind.i64 0] = v))) (AV.tup [AV.sl 6 [[AV.int IntKind.i64 6, AV.str [], AV.sl 3 [] none, AV.str [45, 45, 62], AV.int IntKind.i64 a, AV.int IntKind.i64 (IntKind.wrap IntKind.i64 (a + 3))]] none, AV.int IntKind.i64 0, AV.int IntKind.i64 0] = v)))) :
    ToEnd cfg2 19 (bodyOf Tryd.f19) (RetIs Tryd.prog Tryd.f19 v) ([.code []]) .normal ([(0, true, .str s), (1, true, .int .i64 a), (2, true, .bool hid)]) ([]) := by
  exact unr_ok hT 100000 _ _ _ _ (show unr cfg2 19 (bodyOf Tryd.f19) (ctab [(28, HasC), (30, openRC), (31, fndC), (32, closedC), (29, hidesC)]) ⟨[], []⟩ (RetIs Tryd.prog Tryd.f19 v) 100000 ([.code []]) .normal ([(0, true, .str s), (1, true, .int .i64 a), (2, true, .bool hid)]) ([]) from unr_use H (by kernel_rfl))

end Go.Proofs.YtolmmodgneodbaaDoor
end

section
namespace Go.Proofs.YtolmmodgneodbaaDoor
open Go.Ai Go Go.Ai.Ex
set_option linter.unusedSimpArgs false
set_option linter.unusedVariables false
set_option maxRecDepth 100000
theorem pf19 : pureFn cfg2 19 Tryd.f19 := ⟨by kernel_rfl, by kernel_rfl, by kernel_rfl, by kernel_rfl, by kernel_rfl, by kernel_rfl⟩
theorem tab19 : TabOk cfg2 (ctab [(28, HasC), (30, openRC), (31, fndC), (32, closedC), (29, hidesC)]) := ctab_ok (ctab_cons c28 (ctab_cons c30 (ctab_cons c31 (ctab_cons c32 (ctab_cons c29 ctab_nil)))))
def nextV (s : List UInt8) (a : Nat) (hid : Option Nat) : AV := match nextM s a hid with
  | .error (p, e) => .tup [.sl 6 (nextZ s a) none, .int .i64 p, .int .i64 e]
  | .ok (l, _) => .tup [.sl 6 (l.map enc9) none, .int .i64 0, .int .i64 0]
theorem nextV_open {s : List UInt8} {a : Nat} {hid : Option Nat} {t : Tok} (ho : has s opensS a = true) (ht : openM s a = .ok t) : nextV s a hid = match rawM s t with
    | .error (p, e) => .tup [.sl 6 [] none, .int .i64 p, .int .i64 e]
    | .ok l => .tup [.sl 6 (l.map enc9) none, .int .i64 0, .int .i64 0] := by
  unfold nextV nextM nextZ
  simp only [if_pos ho, ht]
  cases rawM s t with
  | error x => rfl
  | ok l => rfl
theorem enc9_of {t : Tok} (h : t.kind ≠ 7) : enc9 t = encT t := by unfold enc9; rw [if_neg h]
theorem run19 {s : List UInt8} {a : Nat} {hid : Option Nat} (hs : s.length ≤ limE) (ha : a < s.length) (hsp : spec s a hid.isSome = true) :
    ToEnd cfg2 19 (bodyOf Tryd.f19) (RetIs Tryd.prog Tryd.f19 (nextV s a hid)) [.code []] .normal [(0, true, .str s), (1, true, .int .i64 a), (2, true, .bool hid.isSome)] [] := by
  have hs' : s.length ≤ 1000000 := hs
  refine t19 tab19 ⟨s, opensS, a, by simp [opensS], hs, by decide, by omega, rfl, ifP_intro (fun ho => ⟨s, a, hs, has_le ho (by simp [opensS]), rfl, fun p e he => ?_, fun t ht => ?_⟩) fun ho =>
    ⟨s, closesS, a, by simp [closesS], hs, by decide, by omega, rfl, ifP_intro (fun hc => ⟨s, a, hs, has_le hc (by simp [closesS]), rfl, fun p e he => ?_, fun t ht => ?_⟩) fun hc => ⟨s, a, hs, by omega, rfl, ifP_intro (fun hh => ifP_intro (fun hd => ?_) fun hd => gAnd_intro ?_ ?_) fun hh => ?_⟩⟩⟩
  · refine ifP_intro (fun _ => ?_) fun w => absurd (by simpa using w) (openM_e he)
    simp only [strip_as]
    unfold nextV nextM nextZ
    simp only [if_pos ho, he]
    rfl
  · have h5 := has_le ho (by simp [opensS])
    have e5 : opensS.length = 5 := rfl
    obtain ⟨k1, k2, k3, k4, k5⟩ := openM_ok (by omega) ht
    have hk7 : t.kind ≠ 7 := by omega
    rw [nextV_open ho ht]
    simp only [strip_as]
    refine ifP_intro (fun x => ?_) fun x => ifP_intro (fun y => ifP_intro (fun z => ?_) fun z => ?_) fun y => ?_
    · have x : t.kind = 3 := by simpa using x
      have : rawM s t = .ok [t] := by unfold rawM; rw [if_neg (by omega)]
      rw [this]
      simp only [List.map_cons, List.map_nil, enc9_of hk7]
      rfl
    · have y : ¬ t.name = removeS := by simpa [removeS] using y
      have z : ¬ t.name = inlineS := by simpa [inlineS] using z
      have : rawM s t = .ok [t] := by unfold rawM; rw [if_neg (by rintro ⟨_, h | h⟩; exact y h; exact z h)]
      rw [this]
      simp only [List.map_cons, List.map_nil, enc9_of hk7]
      rfl
    all_goals
      have hk : t.kind = 2 := by
        have x : ¬ t.kind = 3 := by simpa using x
        omega
      have hn : t.name = removeS ∨ t.name = inlineS := by
        first | exact .inl (by simpa [removeS] using y) | exact .inr (by simpa [inlineS] using z)
      have hnl : t.name.length = 6 := by rcases hn with h | h <;> rw [h] <;> rfl
      have hcl : (closesS ++ t.name).length = 12 := by rw [List.length_append, hnl]; rfl
      have hraw : rawM s t = (match fnd (closesS ++ t.name) (s.drop t.to) with
          | none => .error (t.fr, 14)
          | some n => match fnd opensS ((s.drop t.to).take n), decide (t.name = removeS) with
            | some k, true => .error (t.to + k, 13)
            | _, _ => .ok [t, ⟨7, [], [], (s.drop t.to).take n, t.to, t.to + n⟩]) := by
        unfold rawM
        rw [if_pos ⟨hk, hn⟩]
        rfl
      rw [hraw]
      refine gAnd_intro (decide_eq_true (by omega)) ⟨s, closesS ++ t.name, t.to, by simp [closesS], hs, by omega, k5, rfl, ?_⟩
      cases hf : fnd (closesS ++ t.name) (s.drop t.to) with
      | none =>
        have hR : findR s (closesS ++ t.name) t.to = -1 := by unfold findR; rw [hf]
        rw [hR]
        refine ifP_intro (fun _ => ?_) fun q => by simp at q
        rw [k2]
      | some n =>
        have hR : findR s (closesS ++ t.name) t.to = ((t.to + n : Nat) : Int) := by unfold findR; rw [hf]
        have hle := fnd_le hf
        rw [List.length_drop, hcl] at hle
        rw [hR]
        have hcut : cutL s none (some ((t.to + n : Nat) : Int)) = s.take (t.to + n) := rfl
        have htk : (s.take (t.to + n)).drop t.to = (s.drop t.to).take n := by rw [List.drop_take, Nat.add_sub_cancel_left]
        obtain ⟨c1, c2⟩ := cut_cutL s (show t.to ≤ t.to + n by omega) (by omega)
        rw [cut_take] at c1
        rw [hcut, c1]
        refine ifP_intro (fun q => by simp at q; omega) fun _ => gAnd_intro (by simp [cutOb]; omega) ⟨s.take (t.to + n), opensS, t.to, by simp [opensS], by rw [List.length_take]; omega, by decide, by rw [List.length_take]; omega, rfl, ?_⟩
        have hR2 : findR (s.take (t.to + n)) opensS t.to = match fnd opensS ((s.drop t.to).take n) with | some k => ((t.to + k : Nat) : Int) | none => -1 := by unfold findR; rw [htk]; rfl
        rw [hR2]
        have last : AV.tup [AV.sl 6 [encT t, [.int .i64 7, .str [], .sl 0 [] none, .str ((s.drop t.to).take n), .int .i64 t.to, .int .i64 ((t.to + n : Nat) : Int)]] none, .int .i64 0, .int .i64 0] = .tup [.sl 6 ([t, ⟨7, [], [], (s.drop t.to).take n, t.to, t.to + n⟩].map enc9) none, .int .i64 0, .int .i64 0] := by
          simp only [List.map_cons, List.map_nil, enc9_of hk7]
          rfl
        refine ifP_intro (fun r => ?_) fun r => gAnd_intro c2 ?_
        · have r : t.name = removeS := by simpa [removeS] using r
          cases hf2 : fnd opensS ((s.drop t.to).take n) with
          | some k =>
            refine ifP_intro (fun _ => ?_) fun q => by simp at q; omega
            simp only [hf2, decide_eq_true r]
          | none =>
            refine ifP_intro (fun q => by simp at q) fun _ => gAnd_intro c2 ?_
            simp only [hf2]
            exact last
        · have r : ¬ t.name = removeS := by simpa [removeS] using r
          simp only [decide_eq_false r]
          cases fnd opensS ((s.drop t.to).take n) <;> exact last
  · unfold nextV nextM nextZ
    simp only [if_neg (show ¬ has s opensS a = true by rw [ho]; simp), if_pos hc, he]
    rfl
  · have h6 := has_le hc (by simp [closesS])
    have e6 : closesS.length = 6 := rfl
    have hk := (closeM_ok (by omega) ht).1
    simp only [strip_as]
    unfold nextV nextM nextZ
    simp only [if_neg (show ¬ has s opensS a = true by rw [ho]; simp), if_pos hc, ht, List.map_cons, List.map_nil, enc9_of (show t.kind ≠ 7 by omega)]
    rfl
  all_goals
    have ho' : ¬ has s opensS a = true := by rw [ho]; simp
    have hc' : ¬ has s closesS a = true := by rw [hc]; simp
  · unfold nextV nextM nextZ
    simp only [if_neg ho', if_neg hc', if_pos hh, if_pos hd]
  all_goals try
    have h8 : a + 8 ≤ s.length := by
      unfold hideB at hh
      simp only [Bool.and_eq_true, decide_eq_true_eq] at hh
      omega
    have w8 : IntKind.wrap .i64 ((a : Int) + 8) = ((a + 8 : Nat) : Int) := wr (by omega) (by omega)
    obtain ⟨c1, c2⟩ := cut_cutL s (show a ≤ a + 8 by omega) h8
    rw [w8]
  · exact c2
  · rw [c1]
    unfold nextV nextM nextZ
    simp only [if_neg ho', if_neg hc', if_pos hh, if_neg (show ¬ hid.isSome = true by rw [hd]; simp), List.map_cons, List.map_nil]
    rfl
  · have w3 : IntKind.wrap .i64 ((a : Int) + 3) = ((a + 3 : Nat) : Int) := wr (by omega) (by omega)
    rw [w3]
    unfold nextV nextM nextZ
    simp only [if_neg ho', if_neg hc', if_neg (show ¬ hideB s a = true by rw [hh]; simp), List.map_cons, List.map_nil]
    rfl
theorem c19 : COk cfg2 19 nextC := by
  refine cok_pure pf19 fun vs h K ht => ?_
  obtain ⟨s, a, hid, hs, ha, hsp, rfl, h1, h2⟩ := ht
  refine ⟨nextV s a hid, ?_, run19 hs ha hsp⟩
  unfold nextV
  cases hc : nextM s a hid with
  | error x => obtain ⟨p, e⟩ := x; exact h1 p e hc
  | ok x => obtain ⟨l, hid2⟩ := x; exact h2 l hid2 hc
end Go.Proofs.YtolmmodgneodbaaDoor
end

section
namespace Go.Proofs.YtolmmodgneodbaaDoor
open Go.Ai Go Go.Ai.Ex
set_option maxRecDepth 100000
set_option linter.unusedVariables false
theorem t9 {v : AV} {s : List UInt8} (hT : TabOk cfg2 (ctab [(18, specC), (19, nextC)])) (H :
    ToEnd cfg2 9 (bodyOf Tryd.f9) (RetIs Tryd.prog Tryd.f9 v) [Fm.code [0, 0, 1, 1, 1, 1], Fm.block 0, Fm.code [1, 1, 1, 1, 1]] XT.normal [(0, true, AV.str s), (5, true, AV.sl 6 [] (some 1)), (6, true, AV.int IntKind.i64 (-1)), (7, true, AV.int IntKind.i64 0)] [Blk.grow 0 6 33, Blk.grow 0 6 33]) :
    ToEnd cfg2 9 (bodyOf Tryd.f9) (RetIs Tryd.prog Tryd.f9 v) ([.code []]) .normal ([(0, true, .str s)]) ([]) := by
  exact unr_ok hT 100000 _ _ _ _ (show unr cfg2 9 (bodyOf Tryd.f9) (ctab [(18, specC), (19, nextC)]) ⟨[[0, 0, 1, 1, 1, 1], [0, 0, 1, 0, 1, 0, 0, 1, 0, 0, 0, 1, 1, 1, 1]], [([0, 0, 1, 1, 1, 0, 1, 0, 0, 0, 1, 1, 1, 1], 1, [.int .i64, .str, .av, .str, .int .i64, .int .i64]), ([0, 0, 1, 1, 1, 1, 0, 1, 0, 0, 0, 1, 1, 1, 1], 1, [.int .i64, .str, .av, .str, .int .i64, .int .i64]), ([1, 1, 1, 1, 1, 1, 0, 1, 0, 0, 0, 1, 1, 1, 1], 4, [.int .i64, .str, .av, .str, .int .i64, .int .i64])]⟩ (RetIs Tryd.prog Tryd.f9 v) 100000 ([.code []]) .normal ([(0, true, .str s)]) ([]) from unr_use H (by kernel_rfl))

theorem t9a {v : AV} {s : List UInt8} {es : List (List AV)} {hid a : Int}  (hT : TabOk cfg2 (ctab [(18, specC), (19, nextC)])) (H :
    ifP (decide (a < (↑(List.length s) : Int)))
  (∃ (s1 : List UInt8),
    ∃ (a2 : Nat),
      ∃ (hid3 : Bool),
        List.length s1 ≤ 1000000 ∧
          a2 ≤ 1000000 ∧
            [AV.str s, AV.int IntKind.i64 a, AV.bool (decide (hid ≥ 0))] = [AV.str s1, AV.int IntKind.i64 (↑a2 : Int), AV.bool hid3] ∧
              ifP (!spec s1 a2 hid3) (ToEnd cfg2 9 (bodyOf Tryd.f9) (RetIs Tryd.prog Tryd.f9 v) [Fm.code [0, 0, 1, 0, 1, 0, 0, 1, 0, 0, 0, 1, 1, 1, 1], Fm.block 2, Fm.code [1, 1, 0, 1, 0, 0, 1, 0, 0, 0, 1, 1, 1, 1], Fm.code [1, 0, 1, 0, 0, 0, 1, 1, 1, 1], Fm.block 1, Fm.loop [0, 0, 1, 1, 1, 1] 2, Fm.block 0, Fm.code [1, 1, 1, 1, 1]] XT.normal [(0, true, AV.str s), (5, true, AV.sl 6 es (some 1)), (6, true, AV.int IntKind.i64 hid), (7, true, AV.int IntKind.i64 a), (8, true, AV.int IntKind.i64 a)] [Blk.grow 0 6 33, Blk.grow (List.length es) 6 33])
                (∃ (s4 : List UInt8),
                  ∃ (a5 : Nat),
                    ∃ (hid6 : Option Nat),
                      List.length s4 ≤ 1000000 ∧
                        a5 < List.length s4 ∧
                          spec s4 a5 (Option.isSome hid6) = true ∧
                            [AV.str s, AV.int IntKind.i64 a, AV.bool (decide (hid ≥ 0))] = [AV.str s4, AV.int IntKind.i64 (↑a5 : Int), AV.bool (Option.isSome hid6)] ∧
                              (∀ (p7 : Nat) (e8 : Int),
                                  nextM s4 a5 hid6 = Except.error (p7, e8) →
                                    ifP (e8 != 0) (AV.tup [AV.sl 6 [] none, AV.int IntKind.i64 (↑p7 : Int), AV.int IntKind.i64 e8] = v)
                                      (gAnd (inR 0 (List.length (nextZ s4 a5)) && true && true)
                                        (∃ (z10 : Int),
                                          ∃ (s11 : List UInt8),
                                            ∃ (v12 : AV),
                                              ∃ (s13 : List UInt8),
                                                ∃ (z14 : Int),
                                                  ∃ (z15 : Int),
                                                    getE (nextZ s4 a5) 0 = [AV.int IntKind.i64 z10, AV.str s11, v12, AV.str s13, AV.int IntKind.i64 z14, AV.int IntKind.i64 z15] ∧
                                                      ifP (z10 == 5) (gAnd (inR 0 (List.length (nextZ s4 a5)) && true && true) (∃ (z16 : Int), ∃ (s17 : List UInt8), ∃ (v18 : AV), ∃ (s19 : List UInt8), ∃ (z20 : Int), ∃ (z21 : Int), getE (nextZ s4 a5) 0 = [AV.int IntKind.i64 z16, AV.str s17, v18, AV.str s19, AV.int IntKind.i64 z20, AV.int IntKind.i64 z21] ∧ ifP (z16 == 6) (gAnd (tagOk [Blk.grow 0 6 33, Blk.grow (List.length es) 6 33] (List.length es) 6 33 (some 1) && true && true && true && decide ((List.length es + List.length (nextZ s4 a5)) * 80 ≤ 140737488355328) && true && true) (gAnd (inR (IntKind.wrap IntKind.i64 ((↑(List.length (nextZ s4 a5)) : Int) - 1)) (List.length (nextZ s4 a5)) && true && true) (∃ (z22 : Int), ∃ (s23 : List UInt8), ∃ (v24 : AV), ∃ (s25 : List UInt8), ∃ (z26 : Int), ∃ (z27 : Int), getE (nextZ s4 a5) (IntKind.wrap IntKind.i64 ((↑(List.length (nextZ s4 a5)) : Int) - 1)) = [AV.int IntKind.i64 z22, AV.str s23, v24, AV.str s25, AV.int IntKind.i64 z26, AV.int IntKind.i64 z27] ∧ ToEnd cfg2 9 (bodyOf Tryd.f9) (RetIs Tryd.prog Tryd.f9 v) [Fm.code [0, 0, 1, 1, 1, 1], Fm.block 0, Fm.code [1, 1, 1, 1, 1]] XT.normal [(0, true, AV.str s), (5, true, AV.sl 6 (stripss 2 [Blk.grow 0 6 33, Blk.grow (List.length es + List.length (nextZ s4 a5)) 6 33] (es ++ nextZ s4 a5)) (some 1)), (6, true, AV.int IntKind.i64 (-1)), (7, true, AV.int IntKind.i64 z27)] [Blk.grow 0 6 33, Blk.grow (List.length es + List.length (nextZ s4 a5)) 6 33]))) (gAnd (tagOk [Blk.grow 0 6 33, Blk.grow (List.length es) 6 33] (List.length es) 6 33 (some 1) && true && true && true && decide ((List.length es + List.length (nextZ s4 a5)) * 80 ≤ 140737488355328) && true && true) (gAnd (inR (IntKind.wrap IntKind.i64 ((↑(List.length (nextZ s4 a5)) : Int) - 1)) (List.length (nextZ s4 a5)) && true && true) (∃ (z28 : Int), ∃ (s29 : List UInt8), ∃ (v30 : AV), ∃ (s31 : List UInt8), ∃ (z32 : Int), ∃ (z33 : Int), getE (nextZ s4 a5) (IntKind.wrap IntKind.i64 ((↑(List.length (nextZ s4 a5)) : Int) - 1)) = [AV.int IntKind.i64 z28, AV.str s29, v30, AV.str s31, AV.int IntKind.i64 z32, AV.int IntKind.i64 z33] ∧ ToEnd cfg2 9 (bodyOf Tryd.f9) (RetIs Tryd.prog Tryd.f9 v) [Fm.code [0, 0, 1, 1, 1, 1], Fm.block 0, Fm.code [1, 1, 1, 1, 1]] XT.normal [(0, true, AV.str s), (5, true, AV.sl 6 (stripss 2 [Blk.grow 0 6 33, Blk.grow (List.length es + List.length (nextZ s4 a5)) 6 33] (es ++ nextZ s4 a5)) (some 1)), (6, true, AV.int IntKind.i64 a), (7, true, AV.int IntKind.i64 z33)] [Blk.grow 0 6 33, Blk.grow (List.length es + List.length (nextZ s4 a5)) 6 33])))))
                                                        (gAnd (inR 0 (List.length (nextZ s4 a5)) && true && true) (∃ (z34 : Int), ∃ (s35 : List UInt8), ∃ (v36 : AV), ∃ (s37 : List UInt8), ∃ (z38 : Int), ∃ (z39 : Int), getE (nextZ s4 a5) 0 = [AV.int IntKind.i64 z34, AV.str s35, v36, AV.str s37, AV.int IntKind.i64 z38, AV.int IntKind.i64 z39] ∧ ifP (z34 == 6) (gAnd (tagOk [Blk.grow 0 6 33, Blk.grow (List.length es) 6 33] (List.length es) 6 33 (some 1) && true && true && true && decide ((List.length es + List.length (nextZ s4 a5)) * 80 ≤ 140737488355328) && true && true) (gAnd (inR (IntKind.wrap IntKind.i64 ((↑(List.length (nextZ s4 a5)) : Int) - 1)) (List.length (nextZ s4 a5)) && true && true) (∃ (z40 : Int), ∃ (s41 : List UInt8), ∃ (v42 : AV), ∃ (s43 : List UInt8), ∃ (z44 : Int), ∃ (z45 : Int), getE (nextZ s4 a5) (IntKind.wrap IntKind.i64 ((↑(List.length (nextZ s4 a5)) : Int) - 1)) = [AV.int IntKind.i64 z40, AV.str s41, v42, AV.str s43, AV.int IntKind.i64 z44, AV.int IntKind.i64 z45] ∧ ToEnd cfg2 9 (bodyOf Tryd.f9) (RetIs Tryd.prog Tryd.f9 v) [Fm.code [0, 0, 1, 1, 1, 1], Fm.block 0, Fm.code [1, 1, 1, 1, 1]] XT.normal [(0, true, AV.str s), (5, true, AV.sl 6 (stripss 2 [Blk.grow 0 6 33, Blk.grow (List.length es + List.length (nextZ s4 a5)) 6 33] (es ++ nextZ s4 a5)) (some 1)), (6, true, AV.int IntKind.i64 (-1)), (7, true, AV.int IntKind.i64 z45)] [Blk.grow 0 6 33, Blk.grow (List.length es + List.length (nextZ s4 a5)) 6 33]))) (gAnd (tagOk [Blk.grow 0 6 33, Blk.grow (List.length es) 6 33] (List.length es) 6 33 (some 1) && true && true && true && decide ((List.length es + List.length (nextZ s4 a5)) * 80 ≤ 140737488355328) && true && true) (gAnd (inR (IntKind.wrap IntKind.i64 ((↑(List.length (nextZ s4 a5)) : Int) - 1)) (List.length (nextZ s4 a5)) && true && true) (∃ (z46 : Int), ∃ (s47 : List UInt8), ∃ (v48 : AV), ∃ (s49 : List UInt8), ∃ (z50 : Int), ∃ (z51 : Int), getE (nextZ s4 a5) (IntKind.wrap IntKind.i64 ((↑(List.length (nextZ s4 a5)) : Int) - 1)) = [AV.int IntKind.i64 z46, AV.str s47, v48, AV.str s49, AV.int IntKind.i64 z50, AV.int IntKind.i64 z51] ∧ ToEnd cfg2 9 (bodyOf Tryd.f9) (RetIs Tryd.prog Tryd.f9 v) [Fm.code [0, 0, 1, 1, 1, 1], Fm.block 0, Fm.code [1, 1, 1, 1, 1]] XT.normal [(0, true, AV.str s), (5, true, AV.sl 6 (stripss 2 [Blk.grow 0 6 33, Blk.grow (List.length es + List.length (nextZ s4 a5)) 6 33] (es ++ nextZ s4 a5)) (some 1)), (6, true, AV.int IntKind.i64 hid), (7, true, AV.int IntKind.i64 z51)] [Blk.grow 0 6 33, Blk.grow (List.length es + List.length (nextZ s4 a5)) 6 33])))))))) ∧
                                ∀ (l52 : List Tok) (hid253 : Option Nat),
                                  nextM s4 a5 hid6 = Except.ok (l52, hid253) →
                                    gAnd (inR 0 (List.length (List.map enc9 l52)) && true && true)
                                      (∃ (z55 : Int),
                                        ∃ (s56 : List UInt8),
                                          ∃ (v57 : AV),
                                            ∃ (s58 : List UInt8),
                                              ∃ (z59 : Int),
                                                ∃ (z60 : Int),
                                                  getE (List.map enc9 l52) 0 = [AV.int IntKind.i64 z55, AV.str s56, v57, AV.str s58, AV.int IntKind.i64 z59, AV.int IntKind.i64 z60] ∧
                                                    ifP (z55 == 5) (gAnd (inR 0 (List.length (List.map enc9 l52)) && true && true) (∃ (z61 : Int), ∃ (s62 : List UInt8), ∃ (v63 : AV), ∃ (s64 : List UInt8), ∃ (z65 : Int), ∃ (z66 : Int), getE (List.map enc9 l52) 0 = [AV.int IntKind.i64 z61, AV.str s62, v63, AV.str s64, AV.int IntKind.i64 z65, AV.int IntKind.i64 z66] ∧ ifP (z61 == 6) (gAnd (tagOk [Blk.grow 0 6 33, Blk.grow (List.length es) 6 33] (List.length es) 6 33 (some 1) && true && true && true && decide ((List.length es + List.length (List.map enc9 l52)) * 80 ≤ 140737488355328) && true && true) (gAnd (inR (IntKind.wrap IntKind.i64 ((↑(List.length (List.map enc9 l52)) : Int) - 1)) (List.length (List.map enc9 l52)) && true && true) (∃ (z67 : Int), ∃ (s68 : List UInt8), ∃ (v69 : AV), ∃ (s70 : List UInt8), ∃ (z71 : Int), ∃ (z72 : Int), getE (List.map enc9 l52) (IntKind.wrap IntKind.i64 ((↑(List.length (List.map enc9 l52)) : Int) - 1)) = [AV.int IntKind.i64 z67, AV.str s68, v69, AV.str s70, AV.int IntKind.i64 z71, AV.int IntKind.i64 z72] ∧ ToEnd cfg2 9 (bodyOf Tryd.f9) (RetIs Tryd.prog Tryd.f9 v) [Fm.code [0, 0, 1, 1, 1, 1], Fm.block 0, Fm.code [1, 1, 1, 1, 1]] XT.normal [(0, true, AV.str s), (5, true, AV.sl 6 (stripss 2 [Blk.grow 0 6 33, Blk.grow (List.length es + List.length (List.map enc9 l52)) 6 33] (es ++ List.map enc9 l52)) (some 1)), (6, true, AV.int IntKind.i64 (-1)), (7, true, AV.int IntKind.i64 z72)] [Blk.grow 0 6 33, Blk.grow (List.length es + List.length (List.map enc9 l52)) 6 33]))) (gAnd (tagOk [Blk.grow 0 6 33, Blk.grow (List.length es) 6 33] (List.length es) 6 33 (some 1) && true && true && true && decide ((List.length es + List.length (List.map enc9 l52)) * 80 ≤ 140737488355328) && true && true) (gAnd (inR (IntKind.wrap IntKind.i64 ((↑(List.length (List.map enc9 l52)) : Int) - 1)) (List.length (List.map enc9 l52)) && true && true) (∃ (z73 : Int), ∃ (s74 : List UInt8), ∃ (v75 : AV), ∃ (s76 : List UInt8), ∃ (z77 : Int), ∃ (z78 : Int), getE (List.map enc9 l52) (IntKind.wrap IntKind.i64 ((↑(List.length (List.map enc9 l52)) : Int) - 1)) = [AV.int IntKind.i64 z73, AV.str s74, v75, AV.str s76, AV.int IntKind.i64 z77, AV.int IntKind.i64 z78] ∧ ToEnd cfg2 9 (bodyOf Tryd.f9) (RetIs Tryd.prog Tryd.f9 v) [Fm.code [0, 0, 1, 1, 1, 1], Fm.block 0, Fm.code [1, 1, 1, 1, 1]] XT.normal [(0, true, AV.str s), (5, true, AV.sl 6 (stripss 2 [Blk.grow 0 6 33, Blk.grow (List.length es + List.length (List.map enc9 l52)) 6 33] (es ++ List.map enc9 l52)) (some 1)), (6, true, AV.int IntKind.i64 a), (7, true, AV.int IntKind.i64 z78)] [Blk.grow 0 6 33, Blk.grow (List.length es + List.length (List.map enc9 l52)) 6 33])))))
                                                      (gAnd (inR 0 (List.length (List.map enc9 l52)) && true && true) (∃ (z79 : Int), ∃ (s80 : List UInt8), ∃ (v81 : AV), ∃ (s82 : List UInt8), ∃ (z83 : Int), ∃ (z84 : Int), getE (List.map enc9 l52) 0 = [AV.int IntKind.i64 z79, AV.str s80, v81, AV.str s82, AV.int IntKind.i64 z83, AV.int IntKind.i64 z84] ∧ ifP (z79 == 6) (gAnd (tagOk [Blk.grow 0 6 33, Blk.grow (List.length es) 6 33] (List.length es) 6 33 (some 1) && true && true && true && decide ((List.length es + List.length (List.map enc9 l52)) * 80 ≤ 140737488355328) && true && true) (gAnd (inR (IntKind.wrap IntKind.i64 ((↑(List.length (List.map enc9 l52)) : Int) - 1)) (List.length (List.map enc9 l52)) && true && true) (∃ (z85 : Int), ∃ (s86 : List UInt8), ∃ (v87 : AV), ∃ (s88 : List UInt8), ∃ (z89 : Int), ∃ (z90 : Int), getE (List.map enc9 l52) (IntKind.wrap IntKind.i64 ((↑(List.length (List.map enc9 l52)) : Int) - 1)) = [AV.int IntKind.i64 z85, AV.str s86, v87, AV.str s88, AV.int IntKind.i64 z89, AV.int IntKind.i64 z90] ∧ ToEnd cfg2 9 (bodyOf Tryd.f9) (RetIs Tryd.prog Tryd.f9 v) [Fm.code [0, 0, 1, 1, 1, 1], Fm.block 0, Fm.code [1, 1, 1, 1, 1]] XT.normal [(0, true, AV.str s), (5, true, AV.sl 6 (stripss 2 [Blk.grow 0 6 33, Blk.grow (List.length es + List.length (List.map enc9 l52)) 6 33] (es ++ List.map enc9 l52)) (some 1)), (6, true, AV.int IntKind.i64 (-1)), (7, true, AV.int IntKind.i64 z90)] [Blk.grow 0 6 33, Blk.grow (List.length es + List.length (List.map enc9 l52)) 6 33]))) (gAnd (tagOk [Blk.grow 0 6 33, Blk.grow (List.length es) 6 33] (List.length es) 6 33 (some 1) && true && true && true && decide ((List.length es + List.length (List.map enc9 l52)) * 80 ≤ 140737488355328) && true && true) (gAnd (inR (IntKind.wrap IntKind.i64 ((↑(List.length (List.map enc9 l52)) : Int) - 1)) (List.length (List.map enc9 l52)) && true && true) (∃ (z91 : Int), ∃ (s92 : List UInt8), ∃ (v93 : AV), ∃ (s94 : List UInt8), ∃ (z95 : Int), ∃ (z96 : Int), getE (List.map enc9 l52) (IntKind.wrap IntKind.i64 ((↑(List.length (List.map enc9 l52)) : Int) - 1)) = [AV.int IntKind.i64 z91, AV.str s92, v93, AV.str s94, AV.int IntKind.i64 z95, AV.int IntKind.i64 z96] ∧ ToEnd cfg2 9 (bodyOf Tryd.f9) (RetIs Tryd.prog Tryd.f9 v) [Fm.code [0, 0, 1, 1, 1, 1], Fm.block 0, Fm.code [1, 1, 1, 1, 1]] XT.normal [(0, true, AV.str s), (5, true, AV.sl 6 (stripss 2 [Blk.grow 0 6 33, Blk.grow (List.length es + List.length (List.map enc9 l52)) 6 33] (es ++ List.map enc9 l52)) (some 1)), (6, true, AV.int IntKind.i64 hid), (7, true, AV.int IntKind.i64 z96)] [Blk.grow 0 6 33, Blk.grow (List.length es + List.length (List.map enc9 l52)) 6 33]))))))))
  (ifP (decide (hid ≥ 0)) (AV.tup [AV.sl 6 [] none, AV.int IntKind.i64 hid, AV.int IntKind.i64 14] = v) (AV.tup [AV.sl 6 (stripss 0 [Blk.grow 0 6 33, Blk.grow (List.length es) 6 33] es) none, AV.int IntKind.i64 0, AV.int IntKind.i64 0] = v))) :
    ToEnd cfg2 9 (bodyOf Tryd.f9) (RetIs Tryd.prog Tryd.f9 v) ([.code [0, 0, 1, 1, 1, 1], .block 0, .code [1, 1, 1, 1, 1]]) .normal ([(0, true, .str s), (5, true, .sl 6 es (some 1)), (6, true, .int .i64 hid), (7, true, .int .i64 a)]) ([.grow 0 6 33, .grow es.length 6 33]) := by
  exact ends_round hT 100000 (by kernel_rfl) (show unr cfg2 9 (bodyOf Tryd.f9) (ctab [(18, specC), (19, nextC)]) ⟨[[0, 0, 1, 1, 1, 1], [0, 0, 1, 0, 1, 0, 0, 1, 0, 0, 0, 1, 1, 1, 1]], [([0, 0, 1, 1, 1, 0, 1, 0, 0, 0, 1, 1, 1, 1], 1, [.int .i64, .str, .av, .str, .int .i64, .int .i64]), ([0, 0, 1, 1, 1, 1, 0, 1, 0, 0, 0, 1, 1, 1, 1], 1, [.int .i64, .str, .av, .str, .int .i64, .int .i64]), ([1, 1, 1, 1, 1, 1, 0, 1, 0, 0, 0, 1, 1, 1, 1], 4, [.int .i64, .str, .av, .str, .int .i64, .int .i64])]⟩ (RetIs Tryd.prog Tryd.f9 v) 100000 ([.code [0, 0, 0, 1, 1, 1, 1], .loop [0, 0, 1, 1, 1, 1] 2, .block 0, .code [1, 1, 1, 1, 1]]) .normal ([(0, true, .str s), (5, true, .sl 6 es (some 1)), (6, true, .int .i64 hid), (7, true, .int .i64 a)]) ([.grow 0 6 33, .grow es.length 6 33]) from unr_use H (by kernel_rfl))

theorem t9b {v : AV} {s : List UInt8} {es : List (List AV)} {hid a : Int} {b : Int} (hT : TabOk cfg2 (ctab [(18, specC), (19, nextC)])) (H :
    ifP (decide (b < (↑(List.length s) : Int))) (∃ (s1 : List UInt8), ∃ (a2 : Nat), ∃ (hid3 : Bool), List.length s1 ≤ 1000000 ∧ a2 ≤ 1000000 ∧ [AV.str s, AV.int IntKind.i64 b, AV.bool (decide (hid ≥ 0))] = [AV.str s1, AV.int IntKind.i64 (↑a2 : Int), AV.bool hid3] ∧ ifP (!spec s1 a2 hid3) (ToEnd cfg2 9 (bodyOf Tryd.f9) (RetIs Tryd.prog Tryd.f9 v) [Fm.code [0, 0, 1, 0, 1, 0, 0, 1, 0, 0, 0, 1, 1, 1, 1], Fm.block 2, Fm.code [1, 1, 0, 1, 0, 0, 1, 0, 0, 0, 1, 1, 1, 1], Fm.code [1, 0, 1, 0, 0, 0, 1, 1, 1, 1], Fm.block 1, Fm.loop [0, 0, 1, 1, 1, 1] 2, Fm.block 0, Fm.code [1, 1, 1, 1, 1]] XT.normal [(0, true, AV.str s), (5, true, AV.sl 6 (stripss 2 [Blk.grow 0 6 33, Blk.grow (List.length es) 6 33] es) (some 1)), (6, true, AV.int IntKind.i64 hid), (7, true, AV.int IntKind.i64 a), (8, true, AV.int IntKind.i64 (IntKind.wrap IntKind.i64 (b + 1)))] [Blk.grow 0 6 33, Blk.grow (List.length es) 6 33]) (gAnd (cutOb (List.length s) (some a) (some b)) (gAnd (tagOk [Blk.grow 0 6 33, Blk.grow (List.length es) 6 33, Blk.grow 0 3 40, Blk.grow 1 6 33] (List.length es) 6 33 (some 1) && true && true && true && decide ((List.length es + 1) * 80 ≤ 140737488355328) && true && true) (ToEnd cfg2 9 (bodyOf Tryd.f9) (RetIs Tryd.prog Tryd.f9 v) [Fm.code [0, 0, 1, 1, 1, 1], Fm.block 0, Fm.code [1, 1, 1, 1, 1]] XT.normal [(0, true, AV.str s), (5, true, AV.sl 6 (stripss 2 [Blk.grow 0 6 33, Blk.grow (List.length es + 1) 6 33, Blk.grow 0 3 40, Blk.grow 1 6 33] (es ++ [[AV.int IntKind.i64 1, AV.str [], AV.sl 3 [] (some 2), AV.str (cutL s (some a) (some b)), AV.int IntKind.i64 a, AV.int IntKind.i64 b]])) (some 1)), (6, true, AV.int IntKind.i64 hid), (7, true, AV.int IntKind.i64 b)] [Blk.grow 0 6 33, Blk.grow (List.length es + 1) 6 33])))) (gAnd (cutOb (List.length s) (some a) (some b)) (gAnd (tagOk [Blk.grow 0 6 33, Blk.grow (List.length es) 6 33, Blk.grow 0 3 40, Blk.grow 1 6 33] (List.length es) 6 33 (some 1) && true && true && true && decide ((List.length es + 1) * 80 ≤ 140737488355328) && true && true) (ToEnd cfg2 9 (bodyOf Tryd.f9) (RetIs Tryd.prog Tryd.f9 v) [Fm.code [0, 0, 1, 1, 1, 1], Fm.block 0, Fm.code [1, 1, 1, 1, 1]] XT.normal [(0, true, AV.str s), (5, true, AV.sl 6 (stripss 2 [Blk.grow 0 6 33, Blk.grow (List.length es + 1) 6 33, Blk.grow 0 3 40, Blk.grow 1 6 33] (es ++ [[AV.int IntKind.i64 1, AV.str [], AV.sl 3 [] (some 2), AV.str (cutL s (some a) (some b)), AV.int IntKind.i64 a, AV.int IntKind.i64 b]])) (some 1)), (6, true, AV.int IntKind.i64 hid), (7, true, AV.int IntKind.i64 b)] [Blk.grow 0 6 33, Blk.grow (List.length es + 1) 6 33])))) :
    ToEnd cfg2 9 (bodyOf Tryd.f9) (RetIs Tryd.prog Tryd.f9 v) ([.code [0, 0, 1, 0, 1, 0, 0, 1, 0, 0, 0, 1, 1, 1, 1], .block 2, .code [1, 1, 0, 1, 0, 0, 1, 0, 0, 0, 1, 1, 1, 1], .code [1, 0, 1, 0, 0, 0, 1, 1, 1, 1], .block 1, .loop [0, 0, 1, 1, 1, 1] 2, .block 0, .code [1, 1, 1, 1, 1]]) .normal ([(0, true, .str s), (5, true, .sl 6 es (some 1)), (6, true, .int .i64 hid), (7, true, .int .i64 a), (8, true, .int .i64 b)]) ([.grow 0 6 33, .grow es.length 6 33]) := by
  exact ends_round hT 100000 (by kernel_rfl) (show unr cfg2 9 (bodyOf Tryd.f9) (ctab [(18, specC), (19, nextC)]) ⟨[[0, 0, 1, 1, 1, 1], [0, 0, 1, 0, 1, 0, 0, 1, 0, 0, 0, 1, 1, 1, 1]], [([0, 0, 1, 1, 1, 0, 1, 0, 0, 0, 1, 1, 1, 1], 1, [.int .i64, .str, .av, .str, .int .i64, .int .i64]), ([0, 0, 1, 1, 1, 1, 0, 1, 0, 0, 0, 1, 1, 1, 1], 1, [.int .i64, .str, .av, .str, .int .i64, .int .i64]), ([1, 1, 1, 1, 1, 1, 0, 1, 0, 0, 0, 1, 1, 1, 1], 4, [.int .i64, .str, .av, .str, .int .i64, .int .i64])]⟩ (RetIs Tryd.prog Tryd.f9 v) 100000 ([.code [0, 0, 0, 1, 0, 1, 0, 0, 1, 0, 0, 0, 1, 1, 1, 1], .loop [0, 0, 1, 0, 1, 0, 0, 1, 0, 0, 0, 1, 1, 1, 1] 2, .block 2, .code [1, 1, 0, 1, 0, 0, 1, 0, 0, 0, 1, 1, 1, 1], .code [1, 0, 1, 0, 0, 0, 1, 1, 1, 1], .block 1, .loop [0, 0, 1, 1, 1, 1] 2, .block 0, .code [1, 1, 1, 1, 1]]) .normal ([(0, true, .str s), (5, true, .sl 6 es (some 1)), (6, true, .int .i64 hid), (7, true, .int .i64 a), (8, true, .int .i64 b)]) ([.grow 0 6 33, .grow es.length 6 33]) from unr_use H (by kernel_rfl))

theorem t10 {v : AV} {z : Nat} {ea eb : List (List AV)} (hT : TabOk cfg2 (ctab [])) (H :
    ifP ((↑(List.length ea) : Int) != (↑(List.length eb) : Int)) (AV.bool false = v) (ToEnd cfg2 10 (bodyOf Tryd.f10) (RetIs Tryd.prog Tryd.f10 v) [Fm.code [0, 1, 0, 1, 1], Fm.block 0, Fm.code [1, 1, 1]] XT.normal [(0, true, AV.sl 3 ea none), (1, true, AV.sl z eb none), (5, true, AV.int IntKind.i64 0)] [])) :
    ToEnd cfg2 10 (bodyOf Tryd.f10) (RetIs Tryd.prog Tryd.f10 v) ([.code []]) .normal ([(0, true, .sl 3 ea none), (1, true, .sl z eb none)]) ([]) := by
  exact unr_ok hT 100000 _ _ _ _ (show unr cfg2 10 (bodyOf Tryd.f10) (ctab []) ⟨[[0, 1, 0, 1, 1]], [([0, 0, 0, 1, 0, 0, 1, 0, 1, 1], 2, [.str, .str, .int .i64]), ([0, 0, 0, 1, 0, 0, 1, 0, 1, 1], 6, [.str, .str, .int .i64])]⟩ (RetIs Tryd.prog Tryd.f10 v) 100000 ([.code []]) .normal ([(0, true, .sl 3 ea none), (1, true, .sl z eb none)]) ([]) from unr_use H (by kernel_rfl))

theorem t10a {v : AV} {z : Nat} {ea eb : List (List AV)} {i : Int} (hT : TabOk cfg2 (ctab [])) (H :
    ifP (decide (i < (↑(List.length ea) : Int))) (gAnd (inR i (List.length ea) && true && true) (∃ (s1 : List UInt8), ∃ (s2 : List UInt8), ∃ (z3 : Int), getE ea i = [AV.str s1, AV.str s2, AV.int IntKind.i64 z3] ∧ gAnd (inR i (List.length eb) && Nat.beq z 3 && Nat.ble 1 z) (∃ (s4 : List UInt8), ∃ (s5 : List UInt8), ∃ (z6 : Int), getE eb i = [AV.str s4, AV.str s5, AV.int IntKind.i64 z6] ∧ ifP (!(s1 == s4 && (s2 == s5 && (z3 == z6 && true)))) (AV.bool false = v) (ToEnd cfg2 10 (bodyOf Tryd.f10) (RetIs Tryd.prog Tryd.f10 v) [Fm.code [0, 1, 0, 1, 1], Fm.block 0, Fm.code [1, 1, 1]] XT.normal [(0, true, AV.sl 3 ea none), (1, true, AV.sl z eb none), (5, true, AV.int IntKind.i64 (IntKind.wrap IntKind.i64 (i + 1)))] [])))) (AV.bool true = v)) :
    ToEnd cfg2 10 (bodyOf Tryd.f10) (RetIs Tryd.prog Tryd.f10 v) ([.code [0, 1, 0, 1, 1], .block 0, .code [1, 1, 1]]) .normal ([(0, true, .sl 3 ea none), (1, true, .sl z eb none), (5, true, .int .i64 i)]) ([]) := by
  exact ends_round hT 100000 (by kernel_rfl) (show unr cfg2 10 (bodyOf Tryd.f10) (ctab []) ⟨[[0, 1, 0, 1, 1]], [([0, 0, 0, 1, 0, 0, 1, 0, 1, 1], 2, [.str, .str, .int .i64]), ([0, 0, 0, 1, 0, 0, 1, 0, 1, 1], 6, [.str, .str, .int .i64])]⟩ (RetIs Tryd.prog Tryd.f10 v) 100000 ([.code [0, 0, 1, 0, 1, 1], .loop [0, 1, 0, 1, 1] 0, .block 0, .code [1, 1, 1]]) .normal ([(0, true, .sl 3 ea none), (1, true, .sl z eb none), (5, true, .int .i64 i)]) ([]) from unr_use H (by kernel_rfl))

theorem t3 {v : AV} {s : List UInt8} (hT : TabOk cfg2 (ctab [(8, tokC), (7, yesC), (9, tok9C), (10, sameAC)])) (H :
    ifP (decide ((↑(List.length s) : Int) > 6000)) (true = true ∧ AV.bool true = v) (∃ (s1 : List UInt8), List.length s1 ≤ 1000000 ∧ [AV.str s] = [AV.str s1] ∧ (∀ (p2 : Nat) (e3 : Int), lexM s1 = Except.error (p2, e3) → ∃ (s5 : List UInt8), List.length s5 ≤ 1000000 ∧ [AV.str s] = [AV.str s5] ∧ (∀ (p6 : Nat) (e7 : Int), lexM s5 = Except.error (p6, e7) → ifP (e3 != e7) (AV.bool false = v) (ifP ((↑p2 : Int) != (↑p6 : Int)) (AV.bool false = v) (ToEnd cfg2 3 (bodyOf Tryd.f3) (RetIs Tryd.prog Tryd.f3 v) [Fm.code [0, 1, 0, 1, 1, 1, 1, 1], Fm.block 0, Fm.code [1, 1, 1, 1, 1, 1]] XT.normal [(3, true, AV.sl 0 [] none), (6, true, AV.sl 6 [] none), (9, true, AV.int IntKind.i64 0)] []))) ∧ ∀ (l9 : List Tok), lexM s5 = Except.ok l9 → ifP (e3 != 0) (AV.bool false = v) (ifP ((↑p2 : Int) != 0) (AV.bool false = v) (ifP (0 != (↑(List.length (List.map enc9 l9)) : Int)) (AV.bool false = v) (ToEnd cfg2 3 (bodyOf Tryd.f3) (RetIs Tryd.prog Tryd.f3 v) [Fm.code [0, 1, 0, 1, 1, 1, 1, 1], Fm.block 0, Fm.code [1, 1, 1, 1, 1, 1]] XT.normal [(3, true, AV.sl 0 [] none), (6, true, AV.sl 6 (List.map enc9 l9) none), (9, true, AV.int IntKind.i64 0)] [])))) ∧ ∀ (l11 : List Tok), lexM s1 = Except.ok l11 → ∃ (s13 : List UInt8), List.length s13 ≤ 1000000 ∧ [AV.str s] = [AV.str s13] ∧ (∀ (p14 : Nat) (e15 : Int), lexM s13 = Except.error (p14, e15) → ifP (0 != e15) (AV.bool false = v) (ifP (0 != (↑p14 : Int)) (AV.bool false = v) (ifP ((↑(List.length (encTs l11)) : Int) != 0) (AV.bool false = v) (ToEnd cfg2 3 (bodyOf Tryd.f3) (RetIs Tryd.prog Tryd.f3 v) [Fm.code [0, 1, 0, 1, 1, 1, 1, 1], Fm.block 0, Fm.code [1, 1, 1, 1, 1, 1]] XT.normal [(3, true, AV.sl 6 (encTs l11) none), (6, true, AV.sl 6 [] none), (9, true, AV.int IntKind.i64 0)] [])))) ∧ ∀ (l17 : List Tok), lexM s13 = Except.ok l17 → ifP ((↑(List.length (encTs l11)) : Int) != (↑(List.length (List.map enc9 l17)) : Int)) (AV.bool false = v) (ToEnd cfg2 3 (bodyOf Tryd.f3) (RetIs Tryd.prog Tryd.f3 v) [Fm.code [0, 1, 0, 1, 1, 1, 1, 1], Fm.block 0, Fm.code [1, 1, 1, 1, 1, 1]] XT.normal [(3, true, AV.sl 6 (encTs l11) none), (6, true, AV.sl 6 (List.map enc9 l17) none), (9, true, AV.int IntKind.i64 0)] []))) :
    ToEnd cfg2 3 (bodyOf Tryd.f3) (RetIs Tryd.prog Tryd.f3 v) ([.code []]) .normal ([(0, true, .str s)]) ([]) := by
  exact unr_ok hT 100000 _ _ _ _ (show unr cfg2 3 (bodyOf Tryd.f3) (ctab [(8, tokC), (7, yesC), (9, tok9C), (10, sameAC)]) ⟨[[0, 1, 0, 1, 1, 1, 1, 1]], [([0, 0, 0, 1, 0, 0, 1, 0, 1, 1, 1, 1, 1], 2, [.int .i64, .str, .av, .str, .int .i64, .int .i64]), ([0, 0, 0, 1, 0, 0, 1, 0, 1, 1, 1, 1, 1], 6, [.int .i64, .str, .av, .str, .int .i64, .int .i64])]⟩ (RetIs Tryd.prog Tryd.f3 v) 100000 ([.code []]) .normal ([(0, true, .str s)]) ([]) from unr_use H (by kernel_rfl))

theorem t3a {v : AV} {z : Nat} {ea eb : List (List AV)} {i : Int} (hT : TabOk cfg2 (ctab [(8, tokC), (7, yesC), (9, tok9C), (10, sameAC)])) (H :
    ifP (decide (i < (↑(List.length ea) : Int))) (gAnd (inR i (List.length ea) && Nat.beq z 6 && Nat.ble 1 z) (∃ (z1 : Int), ∃ (s2 : List UInt8), ∃ (v3 : AV), ∃ (s4 : List UInt8), ∃ (z5 : Int), ∃ (z6 : Int), getE ea i = [AV.int IntKind.i64 z1, AV.str s2, v3, AV.str s4, AV.int IntKind.i64 z5, AV.int IntKind.i64 z6] ∧ gAnd (inR i (List.length eb) && true && true) (∃ (z7 : Int), ∃ (s8 : List UInt8), ∃ (v9 : AV), ∃ (s10 : List UInt8), ∃ (z11 : Int), ∃ (z12 : Int), getE eb i = [AV.int IntKind.i64 z7, AV.str s8, v9, AV.str s10, AV.int IntKind.i64 z11, AV.int IntKind.i64 z12] ∧ ifP (z1 != z7) (AV.bool false = v) (ifP (!s2 == s8) (AV.bool false = v) (ifP (!s4 == s10) (AV.bool false = v) (ifP (z5 != z11) (AV.bool false = v) (ifP (z6 != z12) (AV.bool false = v) (∃ (l13 : List Att), ∃ (z14 : Nat), List.length l13 ≤ 1000000 ∧ (l13 = [] ∨ z14 = 3) ∧ [strip 0 [] v3, strip 0 [] v9] = [AV.sl 3 (encAs l13) none, AV.sl z14 (encAs l13) none] ∧ gAnd (lowVss 0 ea && true && (lowVss 0 eb && true && true) && true) (ToEnd cfg2 3 (bodyOf Tryd.f3) (RetIs Tryd.prog Tryd.f3 v) [Fm.code [0, 1, 0, 1, 1, 1, 1, 1], Fm.block 0, Fm.code [1, 1, 1, 1, 1, 1]] XT.normal [(3, true, AV.sl z ea none), (6, true, AV.sl 6 eb none), (9, true, AV.int IntKind.i64 (IntKind.wrap IntKind.i64 (i + 1)))] []))))))))) (true = true ∧ AV.bool true = v)) :
    ToEnd cfg2 3 (bodyOf Tryd.f3) (RetIs Tryd.prog Tryd.f3 v) ([.code [0, 1, 0, 1, 1, 1, 1, 1], .block 0, .code [1, 1, 1, 1, 1, 1]]) .normal ([(3, true, .sl z ea none), (6, true, .sl 6 eb none), (9, true, .int .i64 i)]) ([]) := by
  exact ends_round hT 100000 (by kernel_rfl) (show unr cfg2 3 (bodyOf Tryd.f3) (ctab [(8, tokC), (7, yesC), (9, tok9C), (10, sameAC)]) ⟨[[0, 1, 0, 1, 1, 1, 1, 1]], [([0, 0, 0, 1, 0, 0, 1, 0, 1, 1, 1, 1, 1], 2, [.int .i64, .str, .av, .str, .int .i64, .int .i64]), ([0, 0, 0, 1, 0, 0, 1, 0, 1, 1, 1, 1, 1], 6, [.int .i64, .str, .av, .str, .int .i64, .int .i64])]⟩ (RetIs Tryd.prog Tryd.f3 v) 100000 ([.code [0, 0, 1, 0, 1, 1, 1, 1, 1], .loop [0, 1, 0, 1, 1, 1, 1, 1] 0, .block 0, .code [1, 1, 1, 1, 1, 1]]) .normal ([(3, true, .sl z ea none), (6, true, .sl 6 eb none), (9, true, .int .i64 i)]) ([]) from unr_use H (by kernel_rfl))

end Go.Proofs.YtolmmodgneodbaaDoor
end

section
namespace Go.Proofs.YtolmmodgneodbaaDoor
open Go.Ai Go Go.Ai.Ex
set_option linter.unusedSimpArgs false
set_option linter.unusedVariables false
set_option maxRecDepth 100000
theorem pf9 : pureFn cfg2 9 Tryd.f9 := ⟨by kernel_rfl, by kernel_rfl, by kernel_rfl, by kernel_rfl, by kernel_rfl, by kernel_rfl⟩
theorem pf10 : pureFn cfg2 10 Tryd.f10 := ⟨by kernel_rfl, by kernel_rfl, by kernel_rfl, by kernel_rfl, by kernel_rfl, by kernel_rfl⟩
theorem pf3 : pureFn cfg2 3 Tryd.f3 := ⟨by kernel_rfl, by kernel_rfl, by kernel_rfl, by kernel_rfl, by kernel_rfl, by kernel_rfl⟩
theorem tab9 : TabOk cfg2 (ctab [(18, specC), (19, nextC)]) := ctab_ok (ctab_cons c18 (ctab_cons c19 ctab_nil))
theorem noT10 : TabOk cfg2 (ctab []) := ctab_ok ctab_nil
def tok9V (s : List UInt8) : AV := match lexM s with
  | .error (p, e) => .tup [.sl 6 [] none, .int .i64 p, .int .i64 e]
  | .ok l => .tup [.sl 6 (l.map enc9) none, .int .i64 0, .int .i64 0]
def hidI (h : Option Nat) : Int := match h with
  | some p => p
  | none => -1
theorem hidI_is (h : Option Nat) : decide (hidI h ≥ 0) = h.isSome := by
  cases h with
  | none => rfl
  | some p => show decide ((p : Int) ≥ 0) = true; exact decide_eq_true (Int.natCast_nonneg p)
abbrev St9 (s : List UInt8) (v : AV) (l : List Tok) (hid : Option Nat) (a : Nat) : Prop :=
  ToEnd cfg2 9 (bodyOf Tryd.f9) (RetIs Tryd.prog Tryd.f9 v) [.code [0, 0, 1, 1, 1, 1], .block 0, .code [1, 1, 1, 1, 1]] .normal [(0, true, .str s), (5, true, .sl 6 (l.map enc9) (some 1)), (6, true, .int .i64 (hidI hid)), (7, true, .int .i64 a)] [.grow 0 6 33, .grow (l.map enc9).length 6 33]
theorem text9 {s : List UInt8} {v : AV} {l : List Tok} {hid : Option Nat} {a : Nat} (hs : s.length ≤ limE) (ha : a ≤ s.length) (hl : l.length ≤ 2 * a) : ∀ (f b : Nat), s.length ≤ b + f → a ≤ b → b ≤ s.length →
    St9 s v (l ++ [⟨1, [], [], cut s a (textTo s hid.isSome f b), a, textTo s hid.isSome f b⟩]) hid (textTo s hid.isSome f b) →
    ToEnd cfg2 9 (bodyOf Tryd.f9) (RetIs Tryd.prog Tryd.f9 v) [.code [0, 0, 1, 0, 1, 0, 0, 1, 0, 0, 0, 1, 1, 1, 1], .block 2, .code [1, 1, 0, 1, 0, 0, 1, 0, 0, 0, 1, 1, 1, 1], .code [1, 0, 1, 0, 0, 0, 1, 1, 1, 1], .block 1, .loop [0, 0, 1, 1, 1, 1] 2, .block 0, .code [1, 1, 1, 1, 1]] .normal
      [(0, true, .str s), (5, true, .sl 6 (l.map enc9) (some 1)), (6, true, .int .i64 (hidI hid)), (7, true, .int .i64 a), (8, true, .int .i64 b)] [.grow 0 6 33, .grow (l.map enc9).length 6 33] := by
  have hs' : s.length ≤ 1000000 := hs
  intro f
  induction f with
  | zero =>
    intro b hf hab hb k
    have hbl : b = s.length := by omega
    have e : textTo s hid.isSome 0 b = b := rfl
    rw [e] at k
    obtain ⟨c1, c2⟩ := cut_cutL s hab hb
    refine t9b tab9 (ifP_intro (fun x => by simp at x; omega) fun _ => gAnd_intro c2 (gAnd_intro ?_ ?_))
    · rw [show tagOk [Blk.grow 0 6 33, Blk.grow (List.map enc9 l).length 6 33, Blk.grow 0 3 40, Blk.grow 1 6 33] (List.map enc9 l).length 6 33 (some 1) = true by simp [tagOk], List.length_map]
      simp; omega
    · rw [c1, stripss_app, stripss_low 2 _ _ (low_9 2 l)]
      have := k
      unfold St9 at this
      rw [List.map_append, List.length_append] at this
      exact this
  | succ f ih =>
    intro b hf hab hb k
    obtain ⟨c1, c2⟩ := cut_cutL s hab hb
    have stop : textTo s hid.isSome (f + 1) b = b → gAnd (cutOb s.length (some (a : Int)) (some (b : Int))) (gAnd (tagOk [Blk.grow 0 6 33, Blk.grow (List.length (List.map enc9 l)) 6 33, Blk.grow 0 3 40, Blk.grow 1 6 33] (List.length (List.map enc9 l)) 6 33 (some 1) && true && true && true && decide ((List.length (List.map enc9 l) + 1) * 80 ≤ 140737488355328) && true && true)
        (ToEnd cfg2 9 (bodyOf Tryd.f9) (RetIs Tryd.prog Tryd.f9 v) [Fm.code [0, 0, 1, 1, 1, 1], Fm.block 0, Fm.code [1, 1, 1, 1, 1]] XT.normal [(0, true, AV.str s), (5, true, AV.sl 6 (stripss 2 [Blk.grow 0 6 33, Blk.grow (List.length (List.map enc9 l) + 1) 6 33, Blk.grow 0 3 40, Blk.grow 1 6 33] (List.map enc9 l ++ [[.int .i64 1, AV.str [], AV.sl 3 [] (some 2), AV.str (cutL s (some (a : Int)) (some (b : Int))), .int .i64 a, .int .i64 b]])) (some 1)), (6, true, .int .i64 (hidI hid)), (7, true, .int .i64 b)] [Blk.grow 0 6 33, Blk.grow (List.length (List.map enc9 l) + 1) 6 33])) := by
      intro e
      rw [e] at k
      refine gAnd_intro c2 (gAnd_intro ?_ ?_)
      · rw [show tagOk [Blk.grow 0 6 33, Blk.grow (List.map enc9 l).length 6 33, Blk.grow 0 3 40, Blk.grow 1 6 33] (List.map enc9 l).length 6 33 (some 1) = true by simp [tagOk], List.length_map]
        simp; omega
      · rw [c1, stripss_app, stripss_low 2 _ _ (low_9 2 l)]
        have := k
        unfold St9 at this
        rw [List.map_append, List.length_append] at this
        exact this
    refine t9b tab9 (ifP_intro (fun x => ⟨s, b, hid.isSome, hs, by omega, by rw [hidI_is], ifP_intro (fun y => ?_) fun y => ?_⟩) fun x => ?_)
    · have x : b < s.length := by simpa using x
      have y : spec s b hid.isSome = false := by simpa using y
      have e : textTo s hid.isSome (f + 1) b = textTo s hid.isSome f (b + 1) := by
        conv => lhs; unfold textTo
        rw [if_neg (by rw [y]; simp; omega)]
      rw [e] at k
      have := ih (b + 1) (by omega) (by omega) (by omega) k
      rw [stripss_low 2 _ _ (low_9 2 l), show IntKind.wrap .i64 ((b : Int) + 1) = ((b + 1 : Nat) : Int) from wr (by omega) (by omega)]
      exact this
    · have y : spec s b hid.isSome = true := by simpa using y
      refine stop ?_
      unfold textTo
      rw [if_pos (.inr y)]
    · refine stop ?_
      unfold textTo
      rw [if_pos (.inl (by simp at x; omega))]
theorem loop9 {s : List UInt8} (hs : s.length ≤ limE) : ∀ (f a : Nat) (hid : Option Nat) (l : List Tok), s.length - a < f → a ≤ s.length → l.length ≤ 2 * a →
    ∀ v, (∀ p e, lexG s f a hid = .error (p, e) → v = .tup [.sl 6 [] none, .int .i64 p, .int .i64 e]) → (∀ r, lexG s f a hid = .ok r → v = .tup [.sl 6 ((l ++ r).map enc9) none, .int .i64 0, .int .i64 0]) → St9 s v l hid a := by
  have hs' : s.length ≤ 1000000 := hs
  intro f
  induction f with
  | zero => intro a hid l hf; omega
  | succ f ih =>
    intro a hid l hf ha hl v hv1 hv2
    unfold St9
    by_cases hend : s.length ≤ a
    · refine t9a tab9 (ifP_intro (fun x => by simp at x; omega) fun _ => ?_)
      cases hid with
      | some p =>
        refine ifP_intro (fun _ => (hv1 p 14 ?_).symm) fun x => ?_
        · unfold lexG
          rw [if_pos hend]
        · rw [hidI_is] at x; cases x
      | none =>
        refine ifP_intro (fun x => ?_) fun _ => ?_
        · rw [hidI_is] at x; cases x
        · rw [stripss_low 0 _ _ (low_9 0 l), hv2 [] ?_, List.append_nil]
          unfold lexG
          rw [if_pos hend]
    · by_cases hsp : spec s a hid.isSome = true
      · refine t9a tab9 (ifP_intro (fun _ => ⟨s, a, hid.isSome, hs, by omega, by rw [hidI_is], ifP_intro (fun y => by rw [hsp] at y; cases y) fun _ => ⟨s, a, hid, hs, by omega, hsp, by rw [hidI_is], fun p e he => ?_, fun m hid2 hm => ?_⟩⟩) fun x => by simp at x; omega)
        · refine ifP_intro (fun _ => ?_) fun z => absurd (by simpa using z) (nextM_e he)
          refine (hv1 p e ?_).symm
          unfold lexG
          rw [if_neg hend, if_pos hsp, he]
        · obtain ⟨t, r, rfl, k7, hh, j1, j2, j3⟩ := nextM_shape (by omega) hsp hm
          have e := lexG_spec (f := f) hend hsp hm
          rw [lastTo_d (a + 1) 0] at e
          have nx := ih (lastTo (t :: r) 0) hid2 (l ++ t :: r) (by omega) j2 (by rw [List.length_append]; omega) v (fun p e' he => hv1 p e' (by rw [e, he]; rfl)) (fun q hq => by
            rw [hv2 (t :: r ++ q) (by rw [e, hq]; rfl)]; simp)
          obtain ⟨z1, z2⟩ := lastTo_get (t := t) (r := r) 0
          have g0 : getE ((t :: r).map enc9) 0 = enc9 t := rfl
          have i0 : inR 0 ((t :: r).map enc9).length = true := by rw [List.length_map]; exact inR_nat (i := 0) (by simp)
          have w : IntKind.wrap .i64 ((((t :: r).map enc9).length : Int) - 1) = (((t :: r).length - 1 : Nat) : Int) := wr (by rw [List.length_map]; simp) (by omega)
          have i1 : inR (((t :: r).length - 1 : Nat) : Int) ((t :: r).map enc9).length = true := by rw [List.length_map]; exact inR_nat z1
          have g1 := getE_map enc9 (t :: r) z1
          have tag : ∀ n : Nat, n ≤ 2 → (tagOk [Blk.grow 0 6 33, Blk.grow (List.length (List.map enc9 l)) 6 33] (List.length (List.map enc9 l)) 6 33 (some 1) && true && true && true && decide ((List.length (List.map enc9 l) + n) * 80 ≤ 140737488355328) && true && true) = true := by
            intro n hn
            rw [show tagOk [Blk.grow 0 6 33, Blk.grow (List.map enc9 l).length 6 33] (List.map enc9 l).length 6 33 (some 1) = true by simp [tagOk], List.length_map]
            simp; omega
          have nx' : ToEnd cfg2 9 (bodyOf Tryd.f9) (RetIs Tryd.prog Tryd.f9 v) [Fm.code [0, 0, 1, 1, 1, 1], Fm.block 0, Fm.code [1, 1, 1, 1, 1]] XT.normal [(0, true, AV.str s), (5, true, AV.sl 6 (stripss 2 [Blk.grow 0 6 33, Blk.grow (List.length (List.map enc9 l) + List.length (List.map enc9 (t :: r))) 6 33] (List.map enc9 l ++ List.map enc9 (t :: r))) (some 1)), (6, true, .int .i64 (hidI hid2)), (7, true, .int .i64 ((lastTo (t :: r) 0 : Nat) : Int))] [Blk.grow 0 6 33, Blk.grow (List.length (List.map enc9 l) + List.length (List.map enc9 (t :: r))) 6 33] := by
            rw [← List.map_append, stripss_low 2 _ _ (low_9 2 _), ← List.length_append, ← List.map_append]
            exact nx
          have e9 : ∀ u : Tok, ∃ (nm : List UInt8) (w : AV) (tx : List UInt8), enc9 u = [.int .i64 u.kind, .str nm, w, .str tx, .int .i64 u.fr, .int .i64 u.to] := by
            intro u
            unfold enc9
            split
            · rename_i h7
              exact ⟨_, _, _, by rw [h7]⟩
            · exact ⟨_, _, _, rfl⟩
          obtain ⟨nm, w1, tx, q1⟩ := e9 t
          obtain ⟨nm2, w2, tx2, q2⟩ := e9 ((t :: r)[(t :: r).length - 1])
          rw [← z2] at q2
          rw [q1] at g0
          rw [q2] at g1
          refine gAnd_intro (by rw [i0]; rfl) ⟨_, _, _, _, _, _, g0, ifP_intro (fun x => ?_) fun x => ?_⟩
          · have x : t.kind = 5 := by simpa using x
            rw [if_pos x] at hh
            subst hh
            refine gAnd_intro (by rw [i0]; rfl) ⟨_, _, _, _, _, _, g0, ifP_intro (fun y => ?_) fun y => ?_⟩
            · have y : t.kind = 6 := by simpa using y
              omega
            · refine gAnd_intro (tag _ (by rw [List.length_map]; exact j3)) ?_
              rw [w]
              exact gAnd_intro (by rw [i1]; rfl) ⟨_, _, _, _, _, _, g1, nx'⟩
          · have x : ¬ t.kind = 5 := by simpa using x
            rw [if_neg x] at hh
            refine gAnd_intro (by rw [i0]; rfl) ⟨_, _, _, _, _, _, g0, ifP_intro (fun y => ?_) fun y => ?_⟩
            · have y : t.kind = 6 := by simpa using y
              rw [if_pos y] at hh
              subst hh
              refine gAnd_intro (tag _ (by rw [List.length_map]; exact j3)) ?_
              rw [w]
              exact gAnd_intro (by rw [i1]; rfl) ⟨_, _, _, _, _, _, g1, nx'⟩
            · have y : ¬ t.kind = 6 := by simpa using y
              rw [if_neg y] at hh
              subst hh
              refine gAnd_intro (tag _ (by rw [List.length_map]; exact j3)) ?_
              rw [w]
              exact gAnd_intro (by rw [i1]; rfl) ⟨_, _, _, _, _, _, g1, nx'⟩
      · have e := lexG_text (f := f) hend hsp
        have h1 := textTo_lt (f := s.length - a) hend hsp (by omega)
        obtain ⟨h2, h3, _⟩ := textTo_ok (s := s) (hid := hid.isSome) (s.length - a) a (by omega) ha
        have nx := ih (textTo s hid.isSome (s.length - a) a) hid (l ++ [⟨1, [], [], cut s a (textTo s hid.isSome (s.length - a) a), a, textTo s hid.isSome (s.length - a) a⟩]) (by omega) h3 (by rw [List.length_append, List.length_singleton]; omega) v
          (fun p e' he => hv1 p e' (by rw [e, he]; rfl)) (fun q hq => by rw [hv2 (_ :: q) (by rw [e, hq]; rfl)]; simp)
        have := text9 hs ha hl (s.length - a) a (by omega) (Nat.le_refl _) ha nx
        refine t9a tab9 (ifP_intro (fun _ => ⟨s, a, hid.isSome, hs, by omega, by rw [hidI_is], ifP_intro (fun y => this) fun y => ?_⟩) fun x => by simp at x; omega)
        exact absurd (by simpa using y) hsp
theorem c9 : COk cfg2 9 tok9C := by
  refine cok_pure pf9 fun vs h K ht => ?_
  obtain ⟨s, hs, rfl, h1, h2⟩ := ht
  refine ⟨tok9V s, ?_, t9 tab9 (loop9 hs (s.length + 1) 0 none [] (by omega) (by omega) (by simp) _ (fun p e he => ?_) fun r hr => ?_)⟩
  · unfold tok9V
    cases hc : lexM s with
    | error x => obtain ⟨p, e⟩ := x; exact h1 p e hc
    | ok l => exact h2 l hc
  · unfold tok9V lexM
    rw [he]
  · unfold tok9V lexM
    rw [hr]
    rfl
theorem loop10 {z : Nat} {l : List Att} (hl : l.length ≤ limE) (hz : l = [] ∨ z = 3) : ∀ (n i : Nat), l.length - i = n → i ≤ l.length →
    ToEnd cfg2 10 (bodyOf Tryd.f10) (RetIs Tryd.prog Tryd.f10 (.bool true)) [.code [0, 1, 0, 1, 1], .block 0, .code [1, 1, 1]] .normal [(0, true, .sl 3 (encAs l) none), (1, true, .sl z (encAs l) none), (5, true, .int .i64 i)] [] := by
  have hl' : l.length ≤ 1000000 := hl
  intro n
  induction n with
  | zero =>
    intro i hn hi
    exact t10a noT10 (ifP_intro (fun x => by simp [encAs] at x; omega) fun _ => rfl)
  | succ n ih =>
    intro i hn hi
    have hlt : i < l.length := by omega
    have hz3 : z = 3 := by
      rcases hz with h | h
      · rw [h] at hlt; simp at hlt
      · exact h
    have g : getE (encAs l) i = encA l[i] := getE_map encA l hlt
    have r : inR (i : Int) (encAs l).length = true := by rw [encAs, List.length_map]; exact inR_nat hlt
    refine t10a noT10 (ifP_intro (fun _ => gAnd_intro (by rw [r]; rfl) ⟨_, _, _, g, gAnd_intro (by rw [r, hz3]; rfl) ⟨_, _, _, g, ifP_intro (fun x => by simp at x) fun _ => ?_⟩⟩) fun x => by simp [encAs] at x; omega)
    rw [show IntKind.wrap .i64 ((i : Int) + 1) = ((i + 1 : Nat) : Int) from wr (by omega) (by omega)]
    exact ih (i + 1) (by omega) (by omega)
theorem c10 : COk cfg2 10 sameAC := by
  refine cok_pure pf10 fun vs h K ht => ?_
  obtain ⟨l, z, hl, hz, rfl, hk⟩ := ht
  refine ⟨_, hk, ?_⟩
  exact t10 noT10 (ifP_intro (fun x => by simp at x) fun _ => loop10 hl hz l.length 0 (by omega) (by omega))
theorem tab3 : TabOk cfg2 (ctab [(8, tokC), (7, yesC), (9, tok9C), (10, sameAC)]) := ctab_ok (ctab_cons c8k (ctab_cons c7 (ctab_cons c9 (ctab_cons c10 ctab_nil))))
theorem loop3 {l : List Tok} (hl : l.length ≤ limE) (hf : ∀ t ∈ l, t.attrs.length ≤ limE ∧ (t.kind = 7 → t.attrs = [])) : ∀ (n i : Nat), l.length - i = n → i ≤ l.length →
    ToEnd cfg2 3 (bodyOf Tryd.f3) (RetIs Tryd.prog Tryd.f3 (.bool true)) [.code [0, 1, 0, 1, 1, 1, 1, 1], .block 0, .code [1, 1, 1, 1, 1, 1]] .normal [(3, true, .sl 6 (encTs l) none), (6, true, .sl 6 (l.map enc9) none), (9, true, .int .i64 i)] [] := by
  have hl' : l.length ≤ 1000000 := hl
  intro n
  induction n with
  | zero =>
    intro i hn hi
    exact t3a tab3 (ifP_intro (fun x => by simp [encTs] at x; omega) fun _ => ⟨rfl, rfl⟩)
  | succ n ih =>
    intro i hn hi
    have hlt : i < l.length := by omega
    have g : getE (encTs l) i = encT l[i] := getE_map encT l hlt
    have g9 : getE (l.map enc9) i = enc9 l[i] := getE_map enc9 l hlt
    have r : inR (i : Int) (encTs l).length = true := by rw [encTs, List.length_map]; exact inR_nat hlt
    have r9 : inR (i : Int) (l.map enc9).length = true := by rw [List.length_map]; exact inR_nat hlt
    obtain ⟨f1, f2⟩ := hf l[i] (List.getElem_mem _)
    have nx := ih (i + 1) (by omega) (by omega)
    rw [← show IntKind.wrap .i64 ((i : Int) + 1) = ((i + 1 : Nat) : Int) from wr (by omega) (by omega)] at nx
    obtain ⟨z, hz, e9⟩ : ∃ z, (l[i].attrs = [] ∨ z = 3) ∧ enc9 l[i] = [.int .i64 l[i].kind, .str l[i].name, .sl z (encAs l[i].attrs) none, .str l[i].text, .int .i64 l[i].fr, .int .i64 l[i].to] := by
      unfold enc9
      by_cases h7 : l[i].kind = 7
      · rw [if_pos h7]
        exact ⟨0, .inl (f2 h7), by rw [h7, f2 h7]; rfl⟩
      · rw [if_neg h7]
        exact ⟨3, .inr rfl, rfl⟩
    rw [e9] at g9
    refine t3a tab3 (ifP_intro (fun _ => gAnd_intro (by rw [r]; rfl) ⟨_, _, _, _, _, _, g, gAnd_intro (by rw [r9]; rfl) ⟨_, _, _, _, _, _, g9, ?_⟩⟩) fun x => by simp [encTs] at x; omega)
    refine ifP_intro (fun x => by simp at x) fun _ => ifP_intro (fun x => by simp at x) fun _ => ifP_intro (fun x => by simp at x) fun _ => ifP_intro (fun x => by simp at x) fun _ => ifP_intro (fun x => by simp at x) fun _ => ⟨l[i].attrs, z, f1, hz, ?_, gAnd_intro ?_ nx⟩
    · simp only [strip, stripss_low 0 [] _ (low_as 0 _)]
    · rw [low_ts, low_9]; rfl
theorem c3 : COk cfg2 3 (fun vs h K => ∃ s : List UInt8, vs = [.str s] ∧ K (.bool true) h) := by
  refine cok_pure pf3 fun vs h K ht => ?_
  obtain ⟨s, rfl, hk⟩ := ht
  refine ⟨_, hk, t3 tab3 (ifP_intro (fun _ => ⟨rfl, rfl⟩) fun x => ?_)⟩
  have hs : s.length ≤ 6000 := by simp at x; omega
  have hs2 : s.length ≤ limE := by unfold limE; omega
  refine ⟨s, hs2, rfl, fun p e he => ⟨s, hs2, rfl, fun p2 e2 he2 => ?_, fun l hl => ?_⟩, fun l hl => ⟨s, hs2, rfl, fun p e he => ?_, fun l2 hl2 => ?_⟩⟩
  · rw [he] at he2
    simp only [Except.error.injEq, Prod.mk.injEq] at he2
    obtain ⟨rfl, rfl⟩ := he2
    refine ifP_intro (fun x => by simp at x) fun _ => ifP_intro (fun x => by simp at x) fun _ => ?_
    exact t3a tab3 (ifP_intro (fun x => by simp at x) fun _ => ⟨rfl, rfl⟩)
  · rw [he] at hl; cases hl
  · rw [he] at hl; cases hl
  · rw [hl] at hl2
    injection hl2 with hl2
    subst hl2
    have hw := lexM_whole hl
    have hf := lexM_fit hl
    have hn : l.length ≤ 20000 := by rcases WG_len l 0 none false hw (by omega) with h | ⟨_, h⟩ <;> omega
    have ho := WG_out l 0 none false hw hf (by omega)
    refine ifP_intro (fun x => by simp [encTs] at x) fun _ => loop3 (by unfold limE; omega) (fun t ht => ⟨?_, fun h7 => ?_⟩) l.length 0 (by omega) (by omega)
    · have := fits_count (hf t ht)
      have := outS_mem ht
      unfold limE
      omega
    · rcases (hf t ht).2 with h | h | h
      · exact h
      · omega
      · omega
end Go.Proofs.YtolmmodgneodbaaDoor
end
