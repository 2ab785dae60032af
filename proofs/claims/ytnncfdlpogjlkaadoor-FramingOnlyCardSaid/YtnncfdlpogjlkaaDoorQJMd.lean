/-
  Runs of functions of lists of texts, printed by a home tool; each is the kernel's word.
  Where a body ends: pieces, lengths, what fields say: the functions keep to their contracts.
  Where a body ends: what fields say of requests and replies: the functions keep to their contracts.
-/
import Derived.Test.YtnncfdlpogjlkaaDoorQCfg
import Derived.Test.YtnncfdlpogjlkaaDoorQJMa
import Derived.Test.YtnncfdlpogjlkaaDoorQJMc
section
namespace Go.Proofs.YtnncfdlpogjlkaaDoor
open Go.Ai Go
set_option maxRecDepth 100000
set_option linter.unusedVariables false
theorem t53a {v : AV} {e : List (List AV)} {sz : Nat} (hT : TabOk cfg (ctab [(75, splitC)])) (H :
    ToEnd cfg 53 (bodyOf Tryd.f53) (RetIs Tryd.prog Tryd.f53 v) [Fm.code [0, 1, 0, 1], Fm.block 0, Fm.code [1, 1]] XT.normal [(2, true, AV.sl 1 [] (some 0)), (8, true, AV.sl sz e none), (9, true, AV.int IntKind.i64 (↑(List.length e) : Int)), (10, true, AV.int IntKind.i64 0)] [Blk.grow 0 1 9]) :
    ToEnd cfg 53 (bodyOf Tryd.f53) (RetIs Tryd.prog Tryd.f53 v) ([.code []]) .normal ([(0, true, .sl sz e none)]) ([]) := by
  have e : unr cfg 53 (bodyOf Tryd.f53) (ctab [(75, splitC)]) ⟨[[0, 1, 0, 1]], [([0, 0, 0, 1, 1, 0, 0, 1, 0, 1], 0, [.str])]⟩ (RetIs Tryd.prog Tryd.f53 v) 100000 ([.code []]) .normal ([(0, true, .sl sz e none)]) ([]) =
    (ToEnd cfg 53 (bodyOf Tryd.f53) (RetIs Tryd.prog Tryd.f53 v) [Fm.code [0, 1, 0, 1], Fm.block 0, Fm.code [1, 1]] XT.normal [(2, true, AV.sl 1 [] (some 0)), (8, true, AV.sl sz e none), (9, true, AV.int IntKind.i64 (↑(List.length e) : Int)), (10, true, AV.int IntKind.i64 0)] [Blk.grow 0 1 9]) := by kernel_rfl
  exact unr_ok hT 100000 _ _ _ _ (e.mpr H)

theorem t53b {v : AV} {e : List (List AV)} {sz : Nat} {e2 : List (List AV)} {i9 : Int} {i10 : Int} {g0 : Nat} (hT : TabOk cfg (ctab [(75, splitC)])) (H :
    ifP (decide (i10 < i9)) (gAnd (inR i10 (List.length e) && Nat.beq sz 1 && Nat.ble 1 sz) (∃ (s1 : List UInt8), getE e i10 = [AV.str s1] ∧ ∃ (s2 : List UInt8), ∃ (sep3 : UInt8), List.length s2 ≤ 10000000 ∧ sep3 ≠ 34 ∧ sep3 ≠ 92 ∧ [AV.str s1, AV.int IntKind.u8 44] = [AV.str s2, AV.int IntKind.u8 (↑(UInt8.toNat sep3) : Int)] ∧ ifP (Prod.snd (splitS sep3 s2) != 0) (AV.tup [AV.sl 1 [] none, AV.int IntKind.i64 4] = v) (gAnd (tagOk [Blk.grow g0 1 9] (List.length e2) 1 9 (some 0) && true && true && true && decide ((List.length e2 + List.length (encS (Prod.fst (splitS sep3 s2)))) * 16 ≤ 140737488355328) && true && true) (gAnd (lowVss 1 (e2 ++ encS (Prod.fst (splitS sep3 s2))) && true && (lowVss 1 e && true && true) && true) (ToEnd cfg 53 (bodyOf Tryd.f53) (RetIs Tryd.prog Tryd.f53 v) [Fm.code [0, 1, 0, 1], Fm.block 0, Fm.code [1, 1]] XT.normal [(2, true, AV.sl 1 (e2 ++ encS (Prod.fst (splitS sep3 s2))) (some 0)), (8, true, AV.sl sz e none), (9, true, AV.int IntKind.i64 i9), (10, true, AV.int IntKind.i64 (IntKind.wrap IntKind.i64 (i10 + 1)))] [Blk.grow (List.length e2 + List.length (encS (Prod.fst (splitS sep3 s2)))) 1 9]))))) (ifP ((↑(List.length e2) : Int) == 0) (AV.tup [AV.sl 1 [] none, AV.int IntKind.i64 4] = v) (AV.tup [AV.sl 1 (stripss 0 [Blk.grow g0 1 9] e2) none, AV.int IntKind.i64 0] = v))) :
    ToEnd cfg 53 (bodyOf Tryd.f53) (RetIs Tryd.prog Tryd.f53 v) ([.code [0, 1, 0, 1], Fm.block 0, Fm.code [1, 1]]) .normal ([(2, true, AV.sl 1 e2 (some 0)), (8, true, AV.sl sz e none), (9, true, AV.int IntKind.i64 i9), (10, true, AV.int IntKind.i64 i10)]) ([Blk.grow g0 1 9]) := by
  have e : unr cfg 53 (bodyOf Tryd.f53) (ctab [(75, splitC)]) ⟨[[0, 1, 0, 1]], [([0, 0, 0, 1, 1, 0, 0, 1, 0, 1], 0, [.str])]⟩ (RetIs Tryd.prog Tryd.f53 v) 100000 ([.code [0, 0, 1, 0, 1], .loop [0, 1, 0, 1] 1, Fm.block 0, Fm.code [1, 1]]) .normal ([(2, true, AV.sl 1 e2 (some 0)), (8, true, AV.sl sz e none), (9, true, AV.int IntKind.i64 i9), (10, true, AV.int IntKind.i64 i10)]) ([Blk.grow g0 1 9]) =
    (ifP (decide (i10 < i9)) (gAnd (inR i10 (List.length e) && Nat.beq sz 1 && Nat.ble 1 sz) (∃ (s1 : List UInt8), getE e i10 = [AV.str s1] ∧ ∃ (s2 : List UInt8), ∃ (sep3 : UInt8), List.length s2 ≤ 10000000 ∧ sep3 ≠ 34 ∧ sep3 ≠ 92 ∧ [AV.str s1, AV.int IntKind.u8 44] = [AV.str s2, AV.int IntKind.u8 (↑(UInt8.toNat sep3) : Int)] ∧ ifP (Prod.snd (splitS sep3 s2) != 0) (AV.tup [AV.sl 1 [] none, AV.int IntKind.i64 4] = v) (gAnd (tagOk [Blk.grow g0 1 9] (List.length e2) 1 9 (some 0) && true && true && true && decide ((List.length e2 + List.length (encS (Prod.fst (splitS sep3 s2)))) * 16 ≤ 140737488355328) && true && true) (gAnd (lowVss 1 (e2 ++ encS (Prod.fst (splitS sep3 s2))) && true && (lowVss 1 e && true && true) && true) (ToEnd cfg 53 (bodyOf Tryd.f53) (RetIs Tryd.prog Tryd.f53 v) [Fm.code [0, 1, 0, 1], Fm.block 0, Fm.code [1, 1]] XT.normal [(2, true, AV.sl 1 (e2 ++ encS (Prod.fst (splitS sep3 s2))) (some 0)), (8, true, AV.sl sz e none), (9, true, AV.int IntKind.i64 i9), (10, true, AV.int IntKind.i64 (IntKind.wrap IntKind.i64 (i10 + 1)))] [Blk.grow (List.length e2 + List.length (encS (Prod.fst (splitS sep3 s2)))) 1 9]))))) (ifP ((↑(List.length e2) : Int) == 0) (AV.tup [AV.sl 1 [] none, AV.int IntKind.i64 4] = v) (AV.tup [AV.sl 1 (stripss 0 [Blk.grow g0 1 9] e2) none, AV.int IntKind.i64 0] = v))) := by kernel_rfl
  exact ends_round hT 100000 (by kernel_rfl) (e.mpr H)

theorem t52a {v : AV} {e : List (List AV)} {sz : Nat} (hT : TabOk cfg (ctab [(53, piecesC), (66, trimSC), (74, Ai.atoiC)])) (H :
    ∃ (l1 : List (List UInt8)), ∃ (sz2 : Nat), (List.length l1 ≤ 10000000 ∧ ∀ (s3 : List UInt8), s3 ∈ l1 → List.length s3 ≤ 10000000) ∧ szOk sz2 1 (List.length l1) ∧ [AV.sl sz (stripss 0 [] e) none] = [AV.sl sz2 (encS l1) none] ∧ ifP (Prod.snd (pcsE l1) != 0) (AV.tup [AV.int IntKind.i64 0, AV.int IntKind.i64 (Prod.snd (pcsE l1))] = v) (ToEnd cfg 52 (bodyOf Tryd.f52) (RetIs Tryd.prog Tryd.f52 v) [Fm.code [0, 1, 0, 1, 1, 1, 1], Fm.block 0, Fm.code [1, 1, 1, 1, 1]] XT.normal [(6, true, AV.sl 1 [] (some 0)), (21, true, AV.sl 1 (encS (Prod.fst (pcsE l1))) none), (22, true, AV.int IntKind.i64 (↑(List.length (encS (Prod.fst (pcsE l1)))) : Int)), (23, true, AV.int IntKind.i64 0)] [Blk.grow 0 1 3])) :
    ToEnd cfg 52 (bodyOf Tryd.f52) (RetIs Tryd.prog Tryd.f52 v) ([.code []]) .normal ([(0, true, .sl sz e none)]) ([]) := by
  have e : unr cfg 52 (bodyOf Tryd.f52) (ctab [(53, piecesC), (66, trimSC), (74, Ai.atoiC)]) ⟨[[0, 1, 0, 1, 1, 1, 1], [0, 1, 0, 1, 1, 1, 1, 1]], [([0, 0, 0, 1, 1, 0, 0, 1, 0, 1, 1, 1, 1], 0, [.str]), ([0, 0, 0, 1, 1, 0, 0, 1, 0, 1, 1, 1, 1, 1], 0, [.int .i64]), ([0, 1, 0, 0, 1, 1, 0, 0, 1, 0, 1, 1, 1, 1, 1], 2, [.int .i64]), ([0, 1, 1, 1, 1, 1, 1], 1, [.int .i64])]⟩ (RetIs Tryd.prog Tryd.f52 v) 100000 ([.code []]) .normal ([(0, true, .sl sz e none)]) ([]) =
    (∃ (l1 : List (List UInt8)), ∃ (sz2 : Nat), (List.length l1 ≤ 10000000 ∧ ∀ (s3 : List UInt8), s3 ∈ l1 → List.length s3 ≤ 10000000) ∧ szOk sz2 1 (List.length l1) ∧ [AV.sl sz (stripss 0 [] e) none] = [AV.sl sz2 (encS l1) none] ∧ ifP (Prod.snd (pcsE l1) != 0) (AV.tup [AV.int IntKind.i64 0, AV.int IntKind.i64 (Prod.snd (pcsE l1))] = v) (ToEnd cfg 52 (bodyOf Tryd.f52) (RetIs Tryd.prog Tryd.f52 v) [Fm.code [0, 1, 0, 1, 1, 1, 1], Fm.block 0, Fm.code [1, 1, 1, 1, 1]] XT.normal [(6, true, AV.sl 1 [] (some 0)), (21, true, AV.sl 1 (encS (Prod.fst (pcsE l1))) none), (22, true, AV.int IntKind.i64 (↑(List.length (encS (Prod.fst (pcsE l1)))) : Int)), (23, true, AV.int IntKind.i64 0)] [Blk.grow 0 1 3])) := by kernel_rfl
  exact unr_ok hT 100000 _ _ _ _ (e.mpr H)

theorem t52b {v : AV}   {e6 : List (List AV)} {e21 : List (List AV)} {i22 : Int} {i23 : Int} {g0 : Nat} (hT : TabOk cfg (ctab [(53, piecesC), (66, trimSC), (74, Ai.atoiC)])) (H :
    ifP (decide (i23 < i22)) (gAnd (inR i23 (List.length e21) && true && true) (∃ (s1 : List UInt8), getE e21 i23 = [AV.str s1] ∧ ifP (decide ((↑(List.length s1) : Int) > 18)) (AV.tup [AV.int IntKind.i64 0, AV.int IntKind.i64 4] = v) (∃ (s2 : List UInt8), ∃ (cs3 : List UInt8), List.length s2 ≤ 10000000 ∧ List.length cs3 ≤ 100 ∧ (List.all cs3 fun (b : UInt8) ↦ Nat.blt (UInt8.toNat b) 128) = true ∧ [AV.str s1, AV.str [48, 49, 50, 51, 52, 53, 54, 55, 56, 57]] = [AV.str s2, AV.str cs3] ∧ ifP (!Lib.trimS s2 cs3 == []) (AV.tup [AV.int IntKind.i64 0, AV.int IntKind.i64 4] = v) (∃ (s4 : List UInt8), List.length s4 ≤ 10000000 ∧ [AV.str s1] = [AV.str s4] ∧ gAnd (tagOk [Blk.grow g0 1 3, Blk.grow 1 1 3] (List.length e6) 1 3 (some 0) && true && true && true && decide ((List.length e6 + 1) * 8 ≤ 140737488355328) && true && true) (gAnd (lowVss 1 (e6 ++ [[AV.int IntKind.i64 (atoiV s4)]]) && true && (lowVss 1 e21 && true && true) && true) (ToEnd cfg 52 (bodyOf Tryd.f52) (RetIs Tryd.prog Tryd.f52 v) [Fm.code [0, 1, 0, 1, 1, 1, 1], Fm.block 0, Fm.code [1, 1, 1, 1, 1]] XT.normal [(6, true, AV.sl 1 (e6 ++ [[AV.int IntKind.i64 (atoiV s4)]]) (some 0)), (21, true, AV.sl 1 e21 none), (22, true, AV.int IntKind.i64 i22), (23, true, AV.int IntKind.i64 (IntKind.wrap IntKind.i64 (i23 + 1)))] [Blk.grow (List.length e6 + 1) 1 3])))))) (ToEnd cfg 52 (bodyOf Tryd.f52) (RetIs Tryd.prog Tryd.f52 v) [Fm.code [0, 1, 0, 1, 1, 1, 1, 1], Fm.block 2, Fm.code [1, 1, 1, 1, 1, 1]] XT.normal [(6, true, AV.sl 1 e6 (some 0)), (45, true, AV.sl 1 e6 (some 0)), (46, true, AV.int IntKind.i64 (↑(List.length e6) : Int)), (47, true, AV.int IntKind.i64 0)] [Blk.grow g0 1 3])) :
    ToEnd cfg 52 (bodyOf Tryd.f52) (RetIs Tryd.prog Tryd.f52 v) ([.code [0, 1, 0, 1, 1, 1, 1], Fm.block 0, Fm.code [1, 1, 1, 1, 1]]) .normal ([(6, true, AV.sl 1 e6 (some 0)), (21, true, AV.sl 1 e21 none), (22, true, AV.int IntKind.i64 i22), (23, true, AV.int IntKind.i64 i23)]) ([Blk.grow g0 1 3]) := by
  have e : unr cfg 52 (bodyOf Tryd.f52) (ctab [(53, piecesC), (66, trimSC), (74, Ai.atoiC)]) ⟨[[0, 1, 0, 1, 1, 1, 1], [0, 1, 0, 1, 1, 1, 1, 1]], [([0, 0, 0, 1, 1, 0, 0, 1, 0, 1, 1, 1, 1], 0, [.str]), ([0, 0, 0, 1, 1, 0, 0, 1, 0, 1, 1, 1, 1, 1], 0, [.int .i64]), ([0, 1, 0, 0, 1, 1, 0, 0, 1, 0, 1, 1, 1, 1, 1], 2, [.int .i64]), ([0, 1, 1, 1, 1, 1, 1], 1, [.int .i64])]⟩ (RetIs Tryd.prog Tryd.f52 v) 100000 ([.code [0, 0, 1, 0, 1, 1, 1, 1], .loop [0, 1, 0, 1, 1, 1, 1] 1, Fm.block 0, Fm.code [1, 1, 1, 1, 1]]) .normal ([(6, true, AV.sl 1 e6 (some 0)), (21, true, AV.sl 1 e21 none), (22, true, AV.int IntKind.i64 i22), (23, true, AV.int IntKind.i64 i23)]) ([Blk.grow g0 1 3]) =
    (ifP (decide (i23 < i22)) (gAnd (inR i23 (List.length e21) && true && true) (∃ (s1 : List UInt8), getE e21 i23 = [AV.str s1] ∧ ifP (decide ((↑(List.length s1) : Int) > 18)) (AV.tup [AV.int IntKind.i64 0, AV.int IntKind.i64 4] = v) (∃ (s2 : List UInt8), ∃ (cs3 : List UInt8), List.length s2 ≤ 10000000 ∧ List.length cs3 ≤ 100 ∧ (List.all cs3 fun (b : UInt8) ↦ Nat.blt (UInt8.toNat b) 128) = true ∧ [AV.str s1, AV.str [48, 49, 50, 51, 52, 53, 54, 55, 56, 57]] = [AV.str s2, AV.str cs3] ∧ ifP (!Lib.trimS s2 cs3 == []) (AV.tup [AV.int IntKind.i64 0, AV.int IntKind.i64 4] = v) (∃ (s4 : List UInt8), List.length s4 ≤ 10000000 ∧ [AV.str s1] = [AV.str s4] ∧ gAnd (tagOk [Blk.grow g0 1 3, Blk.grow 1 1 3] (List.length e6) 1 3 (some 0) && true && true && true && decide ((List.length e6 + 1) * 8 ≤ 140737488355328) && true && true) (gAnd (lowVss 1 (e6 ++ [[AV.int IntKind.i64 (atoiV s4)]]) && true && (lowVss 1 e21 && true && true) && true) (ToEnd cfg 52 (bodyOf Tryd.f52) (RetIs Tryd.prog Tryd.f52 v) [Fm.code [0, 1, 0, 1, 1, 1, 1], Fm.block 0, Fm.code [1, 1, 1, 1, 1]] XT.normal [(6, true, AV.sl 1 (e6 ++ [[AV.int IntKind.i64 (atoiV s4)]]) (some 0)), (21, true, AV.sl 1 e21 none), (22, true, AV.int IntKind.i64 i22), (23, true, AV.int IntKind.i64 (IntKind.wrap IntKind.i64 (i23 + 1)))] [Blk.grow (List.length e6 + 1) 1 3])))))) (ToEnd cfg 52 (bodyOf Tryd.f52) (RetIs Tryd.prog Tryd.f52 v) [Fm.code [0, 1, 0, 1, 1, 1, 1, 1], Fm.block 2, Fm.code [1, 1, 1, 1, 1, 1]] XT.normal [(6, true, AV.sl 1 e6 (some 0)), (45, true, AV.sl 1 e6 (some 0)), (46, true, AV.int IntKind.i64 (↑(List.length e6) : Int)), (47, true, AV.int IntKind.i64 0)] [Blk.grow g0 1 3])) := by kernel_rfl
  exact ends_round hT 100000 (by kernel_rfl) (e.mpr H)

theorem t52c {v : AV}   {e6 : List (List AV)}    {g0 : Nat} {i46 : Int} {i47 : Int} (hT : TabOk cfg (ctab [(53, piecesC), (66, trimSC), (74, Ai.atoiC)])) (H :
    ifP (decide (i47 < i46)) (gAnd (inR i47 (List.length e6) && true && true) (∃ (z1 : Int), getE e6 i47 = [AV.int IntKind.i64 z1] ∧ gAnd (inR 0 (List.length e6) && true && true) (∃ (z2 : Int), getE e6 0 = [AV.int IntKind.i64 z2] ∧ ifP (z1 != z2) (AV.tup [AV.int IntKind.i64 0, AV.int IntKind.i64 8] = v) (gAnd (lowVss 1 e6 && true && (lowVss 1 e6 && true && true) && true) (ToEnd cfg 52 (bodyOf Tryd.f52) (RetIs Tryd.prog Tryd.f52 v) [Fm.code [0, 1, 0, 1, 1, 1, 1, 1], Fm.block 2, Fm.code [1, 1, 1, 1, 1, 1]] XT.normal [(6, true, AV.sl 1 e6 (some 0)), (45, true, AV.sl 1 e6 (some 0)), (46, true, AV.int IntKind.i64 i46), (47, true, AV.int IntKind.i64 (IntKind.wrap IntKind.i64 (i47 + 1)))] [Blk.grow g0 1 3]))))) (gAnd (inR 0 (List.length e6) && true && true) (∃ (z3 : Int), getE e6 0 = [AV.int IntKind.i64 z3] ∧ AV.tup [AV.int IntKind.i64 z3, AV.int IntKind.i64 0] = v))) :
    ToEnd cfg 52 (bodyOf Tryd.f52) (RetIs Tryd.prog Tryd.f52 v) ([.code [0, 1, 0, 1, 1, 1, 1, 1], Fm.block 2, Fm.code [1, 1, 1, 1, 1, 1]]) .normal ([(6, true, AV.sl 1 e6 (some 0)), (45, true, AV.sl 1 e6 (some 0)), (46, true, AV.int IntKind.i64 i46), (47, true, AV.int IntKind.i64 i47)]) ([Blk.grow g0 1 3]) := by
  have e : unr cfg 52 (bodyOf Tryd.f52) (ctab [(53, piecesC), (66, trimSC), (74, Ai.atoiC)]) ⟨[[0, 1, 0, 1, 1, 1, 1], [0, 1, 0, 1, 1, 1, 1, 1]], [([0, 0, 0, 1, 1, 0, 0, 1, 0, 1, 1, 1, 1], 0, [.str]), ([0, 0, 0, 1, 1, 0, 0, 1, 0, 1, 1, 1, 1, 1], 0, [.int .i64]), ([0, 1, 0, 0, 1, 1, 0, 0, 1, 0, 1, 1, 1, 1, 1], 2, [.int .i64]), ([0, 1, 1, 1, 1, 1, 1], 1, [.int .i64])]⟩ (RetIs Tryd.prog Tryd.f52 v) 100000 ([.code [0, 0, 1, 0, 1, 1, 1, 1, 1], .loop [0, 1, 0, 1, 1, 1, 1, 1] 1, Fm.block 2, Fm.code [1, 1, 1, 1, 1, 1]]) .normal ([(6, true, AV.sl 1 e6 (some 0)), (45, true, AV.sl 1 e6 (some 0)), (46, true, AV.int IntKind.i64 i46), (47, true, AV.int IntKind.i64 i47)]) ([Blk.grow g0 1 3]) =
    (ifP (decide (i47 < i46)) (gAnd (inR i47 (List.length e6) && true && true) (∃ (z1 : Int), getE e6 i47 = [AV.int IntKind.i64 z1] ∧ gAnd (inR 0 (List.length e6) && true && true) (∃ (z2 : Int), getE e6 0 = [AV.int IntKind.i64 z2] ∧ ifP (z1 != z2) (AV.tup [AV.int IntKind.i64 0, AV.int IntKind.i64 8] = v) (gAnd (lowVss 1 e6 && true && (lowVss 1 e6 && true && true) && true) (ToEnd cfg 52 (bodyOf Tryd.f52) (RetIs Tryd.prog Tryd.f52 v) [Fm.code [0, 1, 0, 1, 1, 1, 1, 1], Fm.block 2, Fm.code [1, 1, 1, 1, 1, 1]] XT.normal [(6, true, AV.sl 1 e6 (some 0)), (45, true, AV.sl 1 e6 (some 0)), (46, true, AV.int IntKind.i64 i46), (47, true, AV.int IntKind.i64 (IntKind.wrap IntKind.i64 (i47 + 1)))] [Blk.grow g0 1 3]))))) (gAnd (inR 0 (List.length e6) && true && true) (∃ (z3 : Int), getE e6 0 = [AV.int IntKind.i64 z3] ∧ AV.tup [AV.int IntKind.i64 z3, AV.int IntKind.i64 0] = v))) := by kernel_rfl
  exact ends_round hT 100000 (by kernel_rfl) (e.mpr H)

theorem t55a {v : AV} {e : List (List AV)} {sz : Nat} {nm : List UInt8} (hT : TabOk cfg (ctab [(54, valuesC), (76, splitC)])) (H :
    ∃ (l1 : List Fld), ∃ (nm2 : List UInt8), ∃ (sz3 : Nat), (List.length l1 ≤ 10000000 ∧ ∀ (f4 : Fld), f4 ∈ l1 → List.length (Fld.name f4) ≤ 10000000 ∧ List.length (Fld.value f4) ≤ 10000000) ∧ szOk sz3 2 (List.length l1) ∧ List.length nm2 ≤ 10000000 ∧ [AV.sl sz (stripss 0 [] e) none, AV.str nm] = [AV.sl sz3 (encFs l1) none, AV.str nm2] ∧ ToEnd cfg 55 (bodyOf Tryd.f55) (RetIs Tryd.prog Tryd.f55 v) [Fm.code [0, 1, 0, 1, 1, 1], Fm.block 0, Fm.code [1, 1, 1, 1]] XT.normal [(6, true, AV.sl 1 [] (some 1)), (7, true, AV.sl 1 (encS (valuesOf l1 nm2)) none), (8, true, AV.int IntKind.i64 0)] [Blk.grow 0 1 9, Blk.grow 0 1 9]) :
    ToEnd cfg 55 (bodyOf Tryd.f55) (RetIs Tryd.prog Tryd.f55 v) ([.code []]) .normal ([(0, true, .sl sz e none), (1, true, .str nm)]) ([]) := by
  have e : unr cfg 55 (bodyOf Tryd.f55) (ctab [(54, valuesC), (76, splitC)]) ⟨[[0, 1, 0, 1, 1, 1]], [([0, 0, 0, 1, 0, 0, 1, 0, 1, 1, 1], 2, [.str])]⟩ (RetIs Tryd.prog Tryd.f55 v) 100000 ([.code []]) .normal ([(0, true, .sl sz e none), (1, true, .str nm)]) ([]) =
    (∃ (l1 : List Fld), ∃ (nm2 : List UInt8), ∃ (sz3 : Nat), (List.length l1 ≤ 10000000 ∧ ∀ (f4 : Fld), f4 ∈ l1 → List.length (Fld.name f4) ≤ 10000000 ∧ List.length (Fld.value f4) ≤ 10000000) ∧ szOk sz3 2 (List.length l1) ∧ List.length nm2 ≤ 10000000 ∧ [AV.sl sz (stripss 0 [] e) none, AV.str nm] = [AV.sl sz3 (encFs l1) none, AV.str nm2] ∧ ToEnd cfg 55 (bodyOf Tryd.f55) (RetIs Tryd.prog Tryd.f55 v) [Fm.code [0, 1, 0, 1, 1, 1], Fm.block 0, Fm.code [1, 1, 1, 1]] XT.normal [(6, true, AV.sl 1 [] (some 1)), (7, true, AV.sl 1 (encS (valuesOf l1 nm2)) none), (8, true, AV.int IntKind.i64 0)] [Blk.grow 0 1 9, Blk.grow 0 1 9]) := by kernel_rfl
  exact unr_ok hT 100000 _ _ _ _ (e.mpr H)

theorem t55b {v : AV}    {e6 : List (List AV)} {e7 : List (List AV)} {i8 : Int} {g0 : Nat} {g1 : Nat} (hT : TabOk cfg (ctab [(54, valuesC), (76, splitC)])) (H :
    ifP (decide (i8 < (↑(List.length e7) : Int))) (gAnd (inR i8 (List.length e7) && true && true) (∃ (s1 : List UInt8), getE e7 i8 = [AV.str s1] ∧ ∃ (s2 : List UInt8), ∃ (sep3 : UInt8), List.length s2 ≤ 10000000 ∧ sep3 ≠ 34 ∧ sep3 ≠ 92 ∧ [AV.str s1, AV.int IntKind.u8 44] = [AV.str s2, AV.int IntKind.u8 (↑(UInt8.toNat sep3) : Int)] ∧ ifP (Prod.snd (splitS sep3 s2) != 0) (AV.tup [AV.sl 1 [] none, AV.bool false] = v) (gAnd (tagOk [Blk.grow g0 1 9, Blk.grow g1 1 9] (List.length e6) 1 9 (some 1) && true && true && true && decide ((List.length e6 + List.length (encS (Prod.fst (splitS sep3 s2)))) * 16 ≤ 140737488355328) && true && true) (gAnd (lowVss 2 (e6 ++ encS (Prod.fst (splitS sep3 s2))) && true && (lowVss 2 e7 && true && true) && true) (ToEnd cfg 55 (bodyOf Tryd.f55) (RetIs Tryd.prog Tryd.f55 v) [Fm.code [0, 1, 0, 1, 1, 1], Fm.block 0, Fm.code [1, 1, 1, 1]] XT.normal [(6, true, AV.sl 1 (e6 ++ encS (Prod.fst (splitS sep3 s2))) (some 1)), (7, true, AV.sl 1 e7 none), (8, true, AV.int IntKind.i64 (IntKind.wrap IntKind.i64 (i8 + 1)))] [Blk.grow g0 1 9, Blk.grow (List.length e6 + List.length (encS (Prod.fst (splitS sep3 s2)))) 1 9]))))) (AV.tup [AV.sl 1 (stripss 0 [Blk.grow g0 1 9, Blk.grow g1 1 9] e6) none, AV.bool (decide ((↑(List.length e6) : Int) > 0))] = v)) :
    ToEnd cfg 55 (bodyOf Tryd.f55) (RetIs Tryd.prog Tryd.f55 v) ([.code [0, 1, 0, 1, 1, 1], Fm.block 0, Fm.code [1, 1, 1, 1]]) .normal ([(6, true, AV.sl 1 e6 (some 1)), (7, true, AV.sl 1 e7 none), (8, true, AV.int IntKind.i64 i8)]) ([Blk.grow g0 1 9, Blk.grow g1 1 9]) := by
  have e : unr cfg 55 (bodyOf Tryd.f55) (ctab [(54, valuesC), (76, splitC)]) ⟨[[0, 1, 0, 1, 1, 1]], [([0, 0, 0, 1, 0, 0, 1, 0, 1, 1, 1], 2, [.str])]⟩ (RetIs Tryd.prog Tryd.f55 v) 100000 ([.code [0, 0, 1, 0, 1, 1, 1], .loop [0, 1, 0, 1, 1, 1] 2, Fm.block 0, Fm.code [1, 1, 1, 1]]) .normal ([(6, true, AV.sl 1 e6 (some 1)), (7, true, AV.sl 1 e7 none), (8, true, AV.int IntKind.i64 i8)]) ([Blk.grow g0 1 9, Blk.grow g1 1 9]) =
    (ifP (decide (i8 < (↑(List.length e7) : Int))) (gAnd (inR i8 (List.length e7) && true && true) (∃ (s1 : List UInt8), getE e7 i8 = [AV.str s1] ∧ ∃ (s2 : List UInt8), ∃ (sep3 : UInt8), List.length s2 ≤ 10000000 ∧ sep3 ≠ 34 ∧ sep3 ≠ 92 ∧ [AV.str s1, AV.int IntKind.u8 44] = [AV.str s2, AV.int IntKind.u8 (↑(UInt8.toNat sep3) : Int)] ∧ ifP (Prod.snd (splitS sep3 s2) != 0) (AV.tup [AV.sl 1 [] none, AV.bool false] = v) (gAnd (tagOk [Blk.grow g0 1 9, Blk.grow g1 1 9] (List.length e6) 1 9 (some 1) && true && true && true && decide ((List.length e6 + List.length (encS (Prod.fst (splitS sep3 s2)))) * 16 ≤ 140737488355328) && true && true) (gAnd (lowVss 2 (e6 ++ encS (Prod.fst (splitS sep3 s2))) && true && (lowVss 2 e7 && true && true) && true) (ToEnd cfg 55 (bodyOf Tryd.f55) (RetIs Tryd.prog Tryd.f55 v) [Fm.code [0, 1, 0, 1, 1, 1], Fm.block 0, Fm.code [1, 1, 1, 1]] XT.normal [(6, true, AV.sl 1 (e6 ++ encS (Prod.fst (splitS sep3 s2))) (some 1)), (7, true, AV.sl 1 e7 none), (8, true, AV.int IntKind.i64 (IntKind.wrap IntKind.i64 (i8 + 1)))] [Blk.grow g0 1 9, Blk.grow (List.length e6 + List.length (encS (Prod.fst (splitS sep3 s2)))) 1 9]))))) (AV.tup [AV.sl 1 (stripss 0 [Blk.grow g0 1 9, Blk.grow g1 1 9] e6) none, AV.bool (decide ((↑(List.length e6) : Int) > 0))] = v)) := by kernel_rfl
  exact ends_round hT 100000 (by kernel_rfl) (e.mpr H)

theorem t33 {v : AV} {e : List (List AV)} {sz : Nat} {o : Int} (hT : TabOk cfg (ctab [(20, valuesB), (52, lengthC), (53, piecesC), (35, likeB)])) (H :
    ∃ (l1 : List Fld),
  ∃ (nm2 : List UInt8),
    ∃ (sz3 : Nat),
      okFb l1 ∧
        szOk sz3 2 (List.length l1) ∧
          List.length nm2 ≤ 10000000 ∧
            [AV.sl sz (stripss 0 [] e) none, AV.str [99, 111, 110, 116, 101, 110, 116, 45, 108, 101, 110, 103, 116, 104]] = [AV.sl sz3 (encFs l1) none, AV.str nm2] ∧
              ∃ (l6 : List Fld),
                ∃ (nm7 : List UInt8),
                  ∃ (sz8 : Nat),
                    okFb l6 ∧
                      szOk sz8 2 (List.length l6) ∧
                        List.length nm7 ≤ 10000000 ∧
                          [AV.sl sz (stripss 0 [] e) none, AV.str [116, 114, 97, 110, 115, 102, 101, 114, 45, 101, 110, 99, 111, 100, 105, 110, 103]] = [AV.sl sz8 (encFs l6) none, AV.str nm7] ∧
                            ifP (decide ((↑(List.length (encS (valuesOf l1 nm2))) : Int) > 0)) (ifP (decide ((↑(List.length (encS (valuesOf l6 nm7))) : Int) > 0)) (AV.tup [AV.agg [AV.int IntKind.i64 0, AV.int IntKind.i64 0], AV.int IntKind.i64 8] = v) (ifP (decide ((↑(List.length (encS (valuesOf l1 nm2))) : Int) > 0)) (∃ (l11 : List (List UInt8)), ∃ (sz12 : Nat), (List.length l11 ≤ 10000000 ∧ ∀ (s13 : List UInt8), s13 ∈ l11 → List.length s13 ≤ 10000000) ∧ szOk sz12 1 (List.length l11) ∧ [AV.sl 1 (stripss 0 [] (encS (valuesOf l1 nm2))) none] = [AV.sl sz12 (encS l11) none] ∧ ifP (Prod.snd (lenA l11) != 0) (AV.tup [AV.agg [AV.int IntKind.i64 0, AV.int IntKind.i64 0], AV.int IntKind.i64 (Prod.snd (lenA l11))] = v) (AV.tup [AV.agg [AV.int IntKind.i64 1, AV.int IntKind.i64 (Prod.fst (lenA l11))], AV.int IntKind.i64 0] = v)) (ifP (decide ((↑(List.length (encS (valuesOf l6 nm7))) : Int) > 0)) (∃ (l15 : List (List UInt8)), ∃ (sz16 : Nat), (List.length l15 ≤ 10000000 ∧ ∀ (s17 : List UInt8), s17 ∈ l15 → List.length s17 ≤ 10000000) ∧ szOk sz16 1 (List.length l15) ∧ [AV.sl 1 (stripss 0 [] (encS (valuesOf l6 nm7))) none] = [AV.sl sz16 (encS l15) none] ∧ ifP (Prod.snd (pcsE l15) != 0) (AV.tup [AV.agg [AV.int IntKind.i64 0, AV.int IntKind.i64 0], AV.int IntKind.i64 4] = v) (ifP ((↑(List.length (encS (Prod.fst (pcsE l15)))) : Int) != 1) (AV.tup [AV.agg [AV.int IntKind.i64 0, AV.int IntKind.i64 0], AV.int IntKind.i64 4] = v) (gAnd (inR 0 (List.length (encS (Prod.fst (pcsE l15)))) && true && true) (∃ (s19 : List UInt8), getE (encS (Prod.fst (pcsE l15))) 0 = [AV.str s19] ∧ ∃ (a20 : List UInt8), ∃ (b21 : List UInt8), List.length a20 ≤ 9223372036854775807 ∧ List.length b21 ≤ 9223372036854775807 ∧ [AV.str s19, AV.str [99, 104, 117, 110, 107, 101, 100]] = [AV.str a20, AV.str b21] ∧ ifP (!lowS a20 == lowS b21) (AV.tup [AV.agg [AV.int IntKind.i64 0, AV.int IntKind.i64 0], AV.int IntKind.i64 4] = v) (AV.tup [AV.agg [AV.int IntKind.i64 2, AV.int IntKind.i64 0], AV.int IntKind.i64 0] = v))))) (AV.tup [AV.agg [AV.int IntKind.i64 o, AV.int IntKind.i64 0], AV.int IntKind.i64 0] = v)))) (ifP (decide ((↑(List.length (encS (valuesOf l1 nm2))) : Int) > 0)) (∃ (l22 : List (List UInt8)), ∃ (sz23 : Nat), (List.length l22 ≤ 10000000 ∧ ∀ (s24 : List UInt8), s24 ∈ l22 → List.length s24 ≤ 10000000) ∧ szOk sz23 1 (List.length l22) ∧ [AV.sl 1 (stripss 0 [] (encS (valuesOf l1 nm2))) none] = [AV.sl sz23 (encS l22) none] ∧ ifP (Prod.snd (lenA l22) != 0) (AV.tup [AV.agg [AV.int IntKind.i64 0, AV.int IntKind.i64 0], AV.int IntKind.i64 (Prod.snd (lenA l22))] = v) (AV.tup [AV.agg [AV.int IntKind.i64 1, AV.int IntKind.i64 (Prod.fst (lenA l22))], AV.int IntKind.i64 0] = v)) (ifP (decide ((↑(List.length (encS (valuesOf l6 nm7))) : Int) > 0)) (∃ (l26 : List (List UInt8)), ∃ (sz27 : Nat), (List.length l26 ≤ 10000000 ∧ ∀ (s28 : List UInt8), s28 ∈ l26 → List.length s28 ≤ 10000000) ∧ szOk sz27 1 (List.length l26) ∧ [AV.sl 1 (stripss 0 [] (encS (valuesOf l6 nm7))) none] = [AV.sl sz27 (encS l26) none] ∧ ifP (Prod.snd (pcsE l26) != 0) (AV.tup [AV.agg [AV.int IntKind.i64 0, AV.int IntKind.i64 0], AV.int IntKind.i64 4] = v) (ifP ((↑(List.length (encS (Prod.fst (pcsE l26)))) : Int) != 1) (AV.tup [AV.agg [AV.int IntKind.i64 0, AV.int IntKind.i64 0], AV.int IntKind.i64 4] = v) (gAnd (inR 0 (List.length (encS (Prod.fst (pcsE l26)))) && true && true) (∃ (s30 : List UInt8), getE (encS (Prod.fst (pcsE l26))) 0 = [AV.str s30] ∧ ∃ (a31 : List UInt8), ∃ (b32 : List UInt8), List.length a31 ≤ 9223372036854775807 ∧ List.length b32 ≤ 9223372036854775807 ∧ [AV.str s30, AV.str [99, 104, 117, 110, 107, 101, 100]] = [AV.str a31, AV.str b32] ∧ ifP (!lowS a31 == lowS b32) (AV.tup [AV.agg [AV.int IntKind.i64 0, AV.int IntKind.i64 0], AV.int IntKind.i64 4] = v) (AV.tup [AV.agg [AV.int IntKind.i64 2, AV.int IntKind.i64 0], AV.int IntKind.i64 0] = v))))) (AV.tup [AV.agg [AV.int IntKind.i64 o, AV.int IntKind.i64 0], AV.int IntKind.i64 0] = v)))) :
    ToEnd cfg 33 (bodyOf Tryd.f33) (RetIs Tryd.prog Tryd.f33 v) ([.code []]) .normal ([(0, true, .sl sz e none), (1, true, .int .i64 o)]) ([]) := by
  have e : unr cfg 33 (bodyOf Tryd.f33) (ctab [(20, valuesB), (52, lengthC), (53, piecesC), (35, likeB)]) ⟨[], [([0, 0, 1, 0, 1, 1, 1, 1, 1, 0, 0, 1, 1], 9, [.str])]⟩ (RetIs Tryd.prog Tryd.f33 v) 100000 ([.code []]) .normal ([(0, true, .sl sz e none), (1, true, .int .i64 o)]) ([]) =
    (∃ (l1 : List Fld),
  ∃ (nm2 : List UInt8),
    ∃ (sz3 : Nat),
      okFb l1 ∧
        szOk sz3 2 (List.length l1) ∧
          List.length nm2 ≤ 10000000 ∧
            [AV.sl sz (stripss 0 [] e) none, AV.str [99, 111, 110, 116, 101, 110, 116, 45, 108, 101, 110, 103, 116, 104]] = [AV.sl sz3 (encFs l1) none, AV.str nm2] ∧
              ∃ (l6 : List Fld),
                ∃ (nm7 : List UInt8),
                  ∃ (sz8 : Nat),
                    okFb l6 ∧
                      szOk sz8 2 (List.length l6) ∧
                        List.length nm7 ≤ 10000000 ∧
                          [AV.sl sz (stripss 0 [] e) none, AV.str [116, 114, 97, 110, 115, 102, 101, 114, 45, 101, 110, 99, 111, 100, 105, 110, 103]] = [AV.sl sz8 (encFs l6) none, AV.str nm7] ∧
                            ifP (decide ((↑(List.length (encS (valuesOf l1 nm2))) : Int) > 0)) (ifP (decide ((↑(List.length (encS (valuesOf l6 nm7))) : Int) > 0)) (AV.tup [AV.agg [AV.int IntKind.i64 0, AV.int IntKind.i64 0], AV.int IntKind.i64 8] = v) (ifP (decide ((↑(List.length (encS (valuesOf l1 nm2))) : Int) > 0)) (∃ (l11 : List (List UInt8)), ∃ (sz12 : Nat), (List.length l11 ≤ 10000000 ∧ ∀ (s13 : List UInt8), s13 ∈ l11 → List.length s13 ≤ 10000000) ∧ szOk sz12 1 (List.length l11) ∧ [AV.sl 1 (stripss 0 [] (encS (valuesOf l1 nm2))) none] = [AV.sl sz12 (encS l11) none] ∧ ifP (Prod.snd (lenA l11) != 0) (AV.tup [AV.agg [AV.int IntKind.i64 0, AV.int IntKind.i64 0], AV.int IntKind.i64 (Prod.snd (lenA l11))] = v) (AV.tup [AV.agg [AV.int IntKind.i64 1, AV.int IntKind.i64 (Prod.fst (lenA l11))], AV.int IntKind.i64 0] = v)) (ifP (decide ((↑(List.length (encS (valuesOf l6 nm7))) : Int) > 0)) (∃ (l15 : List (List UInt8)), ∃ (sz16 : Nat), (List.length l15 ≤ 10000000 ∧ ∀ (s17 : List UInt8), s17 ∈ l15 → List.length s17 ≤ 10000000) ∧ szOk sz16 1 (List.length l15) ∧ [AV.sl 1 (stripss 0 [] (encS (valuesOf l6 nm7))) none] = [AV.sl sz16 (encS l15) none] ∧ ifP (Prod.snd (pcsE l15) != 0) (AV.tup [AV.agg [AV.int IntKind.i64 0, AV.int IntKind.i64 0], AV.int IntKind.i64 4] = v) (ifP ((↑(List.length (encS (Prod.fst (pcsE l15)))) : Int) != 1) (AV.tup [AV.agg [AV.int IntKind.i64 0, AV.int IntKind.i64 0], AV.int IntKind.i64 4] = v) (gAnd (inR 0 (List.length (encS (Prod.fst (pcsE l15)))) && true && true) (∃ (s19 : List UInt8), getE (encS (Prod.fst (pcsE l15))) 0 = [AV.str s19] ∧ ∃ (a20 : List UInt8), ∃ (b21 : List UInt8), List.length a20 ≤ 9223372036854775807 ∧ List.length b21 ≤ 9223372036854775807 ∧ [AV.str s19, AV.str [99, 104, 117, 110, 107, 101, 100]] = [AV.str a20, AV.str b21] ∧ ifP (!lowS a20 == lowS b21) (AV.tup [AV.agg [AV.int IntKind.i64 0, AV.int IntKind.i64 0], AV.int IntKind.i64 4] = v) (AV.tup [AV.agg [AV.int IntKind.i64 2, AV.int IntKind.i64 0], AV.int IntKind.i64 0] = v))))) (AV.tup [AV.agg [AV.int IntKind.i64 o, AV.int IntKind.i64 0], AV.int IntKind.i64 0] = v)))) (ifP (decide ((↑(List.length (encS (valuesOf l1 nm2))) : Int) > 0)) (∃ (l22 : List (List UInt8)), ∃ (sz23 : Nat), (List.length l22 ≤ 10000000 ∧ ∀ (s24 : List UInt8), s24 ∈ l22 → List.length s24 ≤ 10000000) ∧ szOk sz23 1 (List.length l22) ∧ [AV.sl 1 (stripss 0 [] (encS (valuesOf l1 nm2))) none] = [AV.sl sz23 (encS l22) none] ∧ ifP (Prod.snd (lenA l22) != 0) (AV.tup [AV.agg [AV.int IntKind.i64 0, AV.int IntKind.i64 0], AV.int IntKind.i64 (Prod.snd (lenA l22))] = v) (AV.tup [AV.agg [AV.int IntKind.i64 1, AV.int IntKind.i64 (Prod.fst (lenA l22))], AV.int IntKind.i64 0] = v)) (ifP (decide ((↑(List.length (encS (valuesOf l6 nm7))) : Int) > 0)) (∃ (l26 : List (List UInt8)), ∃ (sz27 : Nat), (List.length l26 ≤ 10000000 ∧ ∀ (s28 : List UInt8), s28 ∈ l26 → List.length s28 ≤ 10000000) ∧ szOk sz27 1 (List.length l26) ∧ [AV.sl 1 (stripss 0 [] (encS (valuesOf l6 nm7))) none] = [AV.sl sz27 (encS l26) none] ∧ ifP (Prod.snd (pcsE l26) != 0) (AV.tup [AV.agg [AV.int IntKind.i64 0, AV.int IntKind.i64 0], AV.int IntKind.i64 4] = v) (ifP ((↑(List.length (encS (Prod.fst (pcsE l26)))) : Int) != 1) (AV.tup [AV.agg [AV.int IntKind.i64 0, AV.int IntKind.i64 0], AV.int IntKind.i64 4] = v) (gAnd (inR 0 (List.length (encS (Prod.fst (pcsE l26)))) && true && true) (∃ (s30 : List UInt8), getE (encS (Prod.fst (pcsE l26))) 0 = [AV.str s30] ∧ ∃ (a31 : List UInt8), ∃ (b32 : List UInt8), List.length a31 ≤ 9223372036854775807 ∧ List.length b32 ≤ 9223372036854775807 ∧ [AV.str s30, AV.str [99, 104, 117, 110, 107, 101, 100]] = [AV.str a31, AV.str b32] ∧ ifP (!lowS a31 == lowS b32) (AV.tup [AV.agg [AV.int IntKind.i64 0, AV.int IntKind.i64 0], AV.int IntKind.i64 4] = v) (AV.tup [AV.agg [AV.int IntKind.i64 2, AV.int IntKind.i64 0], AV.int IntKind.i64 0] = v))))) (AV.tup [AV.agg [AV.int IntKind.i64 o, AV.int IntKind.i64 0], AV.int IntKind.i64 0] = v)))) := by kernel_rfl
  exact unr_ok hT 100000 _ _ _ _ (e.mpr H)

theorem t34a {v : AV} {e : List (List AV)} {sz : Nat} (hT : TabOk cfg (ctab [(54, valuesC), (55, piecesRC), (57, Ai.numC), (56, lowerC)])) (H :
    ∃ (l1 : List Fld),
  ∃ (nm2 : List UInt8),
    ∃ (sz3 : Nat),
      (List.length l1 ≤ 10000000 ∧ ∀ (f4 : Fld), f4 ∈ l1 → List.length (Fld.name f4) ≤ 10000000 ∧ List.length (Fld.value f4) ≤ 10000000) ∧
        szOk sz3 2 (List.length l1) ∧
          List.length nm2 ≤ 10000000 ∧
            [AV.sl sz (stripss 0 [] e) none, AV.str [99, 111, 110, 116, 101, 110, 116, 45, 108, 101, 110, 103, 116, 104]] = [AV.sl sz3 (encFs l1) none, AV.str nm2] ∧
              ∃ (l6 : List Fld),
                ∃ (nm7 : List UInt8),
                  ∃ (sz8 : Nat),
                    (List.length l6 ≤ 10000000 ∧ ∀ (f9 : Fld), f9 ∈ l6 → List.length (Fld.name f9) ≤ 10000000 ∧ List.length (Fld.value f9) ≤ 10000000) ∧
                      szOk sz8 2 (List.length l6) ∧
                        List.length nm7 ≤ 10000000 ∧
                          [AV.sl sz (stripss 0 [] e) none, AV.str [116, 114, 97, 110, 115, 102, 101, 114, 45, 101, 110, 99, 111, 100, 105, 110, 103]] = [AV.sl sz8 (encFs l6) none, AV.str nm7] ∧
                            ifP ((↑(List.length (encS (valuesOf l1 nm2))) : Int) == 0)
                              (ifP ((↑(List.length (encS (valuesOf l6 nm7))) : Int) == 0) (AV.tup [AV.agg [AV.int IntKind.i64 0, AV.int IntKind.i64 0], AV.bool false, AV.int IntKind.i64 0] = v)
                                (ifP (decide ((↑(List.length (encS (valuesOf l1 nm2))) : Int) > 0)) (ifP (decide ((↑(List.length (encS (valuesOf l6 nm7))) : Int) > 0)) (AV.tup [AV.agg [AV.int IntKind.i64 0, AV.int IntKind.i64 0], AV.bool true, AV.int IntKind.i64 8] = v) (ifP (decide ((↑(List.length (encS (valuesOf l6 nm7))) : Int) > 0)) (∃ (l11 : List Fld), ∃ (nm12 : List UInt8), ∃ (sz13 : Nat), (List.length l11 ≤ 10000000 ∧ ∀ (f14 : Fld), f14 ∈ l11 → List.length (Fld.name f14) ≤ 10000000 ∧ List.length (Fld.value f14) ≤ 10000000) ∧ szOk sz13 2 (List.length l11) ∧ List.length nm12 ≤ 10000000 ∧ [AV.sl sz (stripss 0 [] e) none, AV.str [116, 114, 97, 110, 115, 102, 101, 114, 45, 101, 110, 99, 111, 100, 105, 110, 103]] = [AV.sl sz13 (encFs l11) none, AV.str nm12] ∧ ifP (!Prod.snd (pcsR (valuesOf l11 nm12))) (AV.tup [AV.agg [AV.int IntKind.i64 0, AV.int IntKind.i64 0], AV.bool true, AV.int IntKind.i64 4] = v) (ifP ((↑(List.length (encS (Prod.fst (pcsR (valuesOf l11 nm12))))) : Int) != 1) (AV.tup [AV.agg [AV.int IntKind.i64 0, AV.int IntKind.i64 0], AV.bool true, AV.int IntKind.i64 4] = v) (gAnd (inR 0 (List.length (encS (Prod.fst (pcsR (valuesOf l11 nm12))))) && true && true) (∃ (s16 : List UInt8), getE (encS (Prod.fst (pcsR (valuesOf l11 nm12)))) 0 = [AV.str s16] ∧ ∃ (s17 : List UInt8), List.length s17 ≤ 10000000 ∧ [AV.str s16] = [AV.str s17] ∧ ifP (!lowS s17 == [99, 104, 117, 110, 107, 101, 100]) (AV.tup [AV.agg [AV.int IntKind.i64 0, AV.int IntKind.i64 0], AV.bool true, AV.int IntKind.i64 4] = v) (AV.tup [AV.agg [AV.int IntKind.i64 2, AV.int IntKind.i64 0], AV.bool true, AV.int IntKind.i64 0] = v))))) (∃ (l18 : List Fld), ∃ (nm19 : List UInt8), ∃ (sz20 : Nat), (List.length l18 ≤ 10000000 ∧ ∀ (f21 : Fld), f21 ∈ l18 → List.length (Fld.name f21) ≤ 10000000 ∧ List.length (Fld.value f21) ≤ 10000000) ∧ szOk sz20 2 (List.length l18) ∧ List.length nm19 ≤ 10000000 ∧ [AV.sl sz (stripss 0 [] e) none, AV.str [99, 111, 110, 116, 101, 110, 116, 45, 108, 101, 110, 103, 116, 104]] = [AV.sl sz20 (encFs l18) none, AV.str nm19] ∧ ifP (!Prod.snd (pcsR (valuesOf l18 nm19))) (AV.tup [AV.agg [AV.int IntKind.i64 0, AV.int IntKind.i64 0], AV.bool true, AV.int IntKind.i64 4] = v) (gAnd (inR 0 (List.length (encS (Prod.fst (pcsR (valuesOf l18 nm19))))) && true && true) (∃ (s23 : List UInt8), getE (encS (Prod.fst (pcsR (valuesOf l18 nm19)))) 0 = [AV.str s23] ∧ ∃ (s24 : List UInt8), List.length s24 ≤ 10000000 ∧ [AV.str s23] = [AV.str s24] ∧ ToEnd cfg 34 (bodyOf Tryd.f34) (RetIs Tryd.prog Tryd.f34 v) [Fm.code [0, 1, 0, 1, 1, 1, 1, 1, 1, 1, 1, 1, 1], Fm.block 0, Fm.code [1, 1, 1, 1, 1, 1, 1, 1, 1, 1, 1]] XT.normal [(2, true, AV.ptr 0 0), (9, true, AV.sl 1 (encS (Prod.fst (pcsR (valuesOf l18 nm19)))) none), (11, true, AV.bool false), (12, true, AV.int IntKind.i64 (if numB s24 = true then (↑(numV s24) : Int) else 0)), (14, true, AV.int IntKind.i64 0)] [Blk.mem 30 [AV.int IntKind.i64 0, AV.int IntKind.i64 0]])))))
                                  (ifP (decide ((↑(List.length (encS (valuesOf l6 nm7))) : Int) > 0)) (∃ (l25 : List Fld), ∃ (nm26 : List UInt8), ∃ (sz27 : Nat), (List.length l25 ≤ 10000000 ∧ ∀ (f28 : Fld), f28 ∈ l25 → List.length (Fld.name f28) ≤ 10000000 ∧ List.length (Fld.value f28) ≤ 10000000) ∧ szOk sz27 2 (List.length l25) ∧ List.length nm26 ≤ 10000000 ∧ [AV.sl sz (stripss 0 [] e) none, AV.str [116, 114, 97, 110, 115, 102, 101, 114, 45, 101, 110, 99, 111, 100, 105, 110, 103]] = [AV.sl sz27 (encFs l25) none, AV.str nm26] ∧ ifP (!Prod.snd (pcsR (valuesOf l25 nm26))) (AV.tup [AV.agg [AV.int IntKind.i64 0, AV.int IntKind.i64 0], AV.bool true, AV.int IntKind.i64 4] = v) (ifP ((↑(List.length (encS (Prod.fst (pcsR (valuesOf l25 nm26))))) : Int) != 1) (AV.tup [AV.agg [AV.int IntKind.i64 0, AV.int IntKind.i64 0], AV.bool true, AV.int IntKind.i64 4] = v) (gAnd (inR 0 (List.length (encS (Prod.fst (pcsR (valuesOf l25 nm26))))) && true && true) (∃ (s30 : List UInt8), getE (encS (Prod.fst (pcsR (valuesOf l25 nm26)))) 0 = [AV.str s30] ∧ ∃ (s31 : List UInt8), List.length s31 ≤ 10000000 ∧ [AV.str s30] = [AV.str s31] ∧ ifP (!lowS s31 == [99, 104, 117, 110, 107, 101, 100]) (AV.tup [AV.agg [AV.int IntKind.i64 0, AV.int IntKind.i64 0], AV.bool true, AV.int IntKind.i64 4] = v) (AV.tup [AV.agg [AV.int IntKind.i64 2, AV.int IntKind.i64 0], AV.bool true, AV.int IntKind.i64 0] = v))))) (∃ (l32 : List Fld), ∃ (nm33 : List UInt8), ∃ (sz34 : Nat), (List.length l32 ≤ 10000000 ∧ ∀ (f35 : Fld), f35 ∈ l32 → List.length (Fld.name f35) ≤ 10000000 ∧ List.length (Fld.value f35) ≤ 10000000) ∧ szOk sz34 2 (List.length l32) ∧ List.length nm33 ≤ 10000000 ∧ [AV.sl sz (stripss 0 [] e) none, AV.str [99, 111, 110, 116, 101, 110, 116, 45, 108, 101, 110, 103, 116, 104]] = [AV.sl sz34 (encFs l32) none, AV.str nm33] ∧ ifP (!Prod.snd (pcsR (valuesOf l32 nm33))) (AV.tup [AV.agg [AV.int IntKind.i64 0, AV.int IntKind.i64 0], AV.bool true, AV.int IntKind.i64 4] = v) (gAnd (inR 0 (List.length (encS (Prod.fst (pcsR (valuesOf l32 nm33))))) && true && true) (∃ (s37 : List UInt8), getE (encS (Prod.fst (pcsR (valuesOf l32 nm33)))) 0 = [AV.str s37] ∧ ∃ (s38 : List UInt8), List.length s38 ≤ 10000000 ∧ [AV.str s37] = [AV.str s38] ∧ ToEnd cfg 34 (bodyOf Tryd.f34) (RetIs Tryd.prog Tryd.f34 v) [Fm.code [0, 1, 0, 1, 1, 1, 1, 1, 1, 1, 1, 1, 1], Fm.block 0, Fm.code [1, 1, 1, 1, 1, 1, 1, 1, 1, 1, 1]] XT.normal [(2, true, AV.ptr 0 0), (9, true, AV.sl 1 (encS (Prod.fst (pcsR (valuesOf l32 nm33)))) none), (11, true, AV.bool false), (12, true, AV.int IntKind.i64 (if numB s38 = true then (↑(numV s38) : Int) else 0)), (14, true, AV.int IntKind.i64 0)] [Blk.mem 30 [AV.int IntKind.i64 0, AV.int IntKind.i64 0]]))))))
                              (ifP (decide ((↑(List.length (encS (valuesOf l1 nm2))) : Int) > 0)) (ifP (decide ((↑(List.length (encS (valuesOf l6 nm7))) : Int) > 0)) (AV.tup [AV.agg [AV.int IntKind.i64 0, AV.int IntKind.i64 0], AV.bool true, AV.int IntKind.i64 8] = v) (ifP (decide ((↑(List.length (encS (valuesOf l6 nm7))) : Int) > 0)) (∃ (l39 : List Fld), ∃ (nm40 : List UInt8), ∃ (sz41 : Nat), (List.length l39 ≤ 10000000 ∧ ∀ (f42 : Fld), f42 ∈ l39 → List.length (Fld.name f42) ≤ 10000000 ∧ List.length (Fld.value f42) ≤ 10000000) ∧ szOk sz41 2 (List.length l39) ∧ List.length nm40 ≤ 10000000 ∧ [AV.sl sz (stripss 0 [] e) none, AV.str [116, 114, 97, 110, 115, 102, 101, 114, 45, 101, 110, 99, 111, 100, 105, 110, 103]] = [AV.sl sz41 (encFs l39) none, AV.str nm40] ∧ ifP (!Prod.snd (pcsR (valuesOf l39 nm40))) (AV.tup [AV.agg [AV.int IntKind.i64 0, AV.int IntKind.i64 0], AV.bool true, AV.int IntKind.i64 4] = v) (ifP ((↑(List.length (encS (Prod.fst (pcsR (valuesOf l39 nm40))))) : Int) != 1) (AV.tup [AV.agg [AV.int IntKind.i64 0, AV.int IntKind.i64 0], AV.bool true, AV.int IntKind.i64 4] = v) (gAnd (inR 0 (List.length (encS (Prod.fst (pcsR (valuesOf l39 nm40))))) && true && true) (∃ (s44 : List UInt8), getE (encS (Prod.fst (pcsR (valuesOf l39 nm40)))) 0 = [AV.str s44] ∧ ∃ (s45 : List UInt8), List.length s45 ≤ 10000000 ∧ [AV.str s44] = [AV.str s45] ∧ ifP (!lowS s45 == [99, 104, 117, 110, 107, 101, 100]) (AV.tup [AV.agg [AV.int IntKind.i64 0, AV.int IntKind.i64 0], AV.bool true, AV.int IntKind.i64 4] = v) (AV.tup [AV.agg [AV.int IntKind.i64 2, AV.int IntKind.i64 0], AV.bool true, AV.int IntKind.i64 0] = v))))) (∃ (l46 : List Fld), ∃ (nm47 : List UInt8), ∃ (sz48 : Nat), (List.length l46 ≤ 10000000 ∧ ∀ (f49 : Fld), f49 ∈ l46 → List.length (Fld.name f49) ≤ 10000000 ∧ List.length (Fld.value f49) ≤ 10000000) ∧ szOk sz48 2 (List.length l46) ∧ List.length nm47 ≤ 10000000 ∧ [AV.sl sz (stripss 0 [] e) none, AV.str [99, 111, 110, 116, 101, 110, 116, 45, 108, 101, 110, 103, 116, 104]] = [AV.sl sz48 (encFs l46) none, AV.str nm47] ∧ ifP (!Prod.snd (pcsR (valuesOf l46 nm47))) (AV.tup [AV.agg [AV.int IntKind.i64 0, AV.int IntKind.i64 0], AV.bool true, AV.int IntKind.i64 4] = v) (gAnd (inR 0 (List.length (encS (Prod.fst (pcsR (valuesOf l46 nm47))))) && true && true) (∃ (s51 : List UInt8), getE (encS (Prod.fst (pcsR (valuesOf l46 nm47)))) 0 = [AV.str s51] ∧ ∃ (s52 : List UInt8), List.length s52 ≤ 10000000 ∧ [AV.str s51] = [AV.str s52] ∧ ToEnd cfg 34 (bodyOf Tryd.f34) (RetIs Tryd.prog Tryd.f34 v) [Fm.code [0, 1, 0, 1, 1, 1, 1, 1, 1, 1, 1, 1, 1], Fm.block 0, Fm.code [1, 1, 1, 1, 1, 1, 1, 1, 1, 1, 1]] XT.normal [(2, true, AV.ptr 0 0), (9, true, AV.sl 1 (encS (Prod.fst (pcsR (valuesOf l46 nm47)))) none), (11, true, AV.bool false), (12, true, AV.int IntKind.i64 (if numB s52 = true then (↑(numV s52) : Int) else 0)), (14, true, AV.int IntKind.i64 0)] [Blk.mem 30 [AV.int IntKind.i64 0, AV.int IntKind.i64 0]])))))
                                (ifP (decide ((↑(List.length (encS (valuesOf l6 nm7))) : Int) > 0)) (∃ (l53 : List Fld), ∃ (nm54 : List UInt8), ∃ (sz55 : Nat), (List.length l53 ≤ 10000000 ∧ ∀ (f56 : Fld), f56 ∈ l53 → List.length (Fld.name f56) ≤ 10000000 ∧ List.length (Fld.value f56) ≤ 10000000) ∧ szOk sz55 2 (List.length l53) ∧ List.length nm54 ≤ 10000000 ∧ [AV.sl sz (stripss 0 [] e) none, AV.str [116, 114, 97, 110, 115, 102, 101, 114, 45, 101, 110, 99, 111, 100, 105, 110, 103]] = [AV.sl sz55 (encFs l53) none, AV.str nm54] ∧ ifP (!Prod.snd (pcsR (valuesOf l53 nm54))) (AV.tup [AV.agg [AV.int IntKind.i64 0, AV.int IntKind.i64 0], AV.bool true, AV.int IntKind.i64 4] = v) (ifP ((↑(List.length (encS (Prod.fst (pcsR (valuesOf l53 nm54))))) : Int) != 1) (AV.tup [AV.agg [AV.int IntKind.i64 0, AV.int IntKind.i64 0], AV.bool true, AV.int IntKind.i64 4] = v) (gAnd (inR 0 (List.length (encS (Prod.fst (pcsR (valuesOf l53 nm54))))) && true && true) (∃ (s58 : List UInt8), getE (encS (Prod.fst (pcsR (valuesOf l53 nm54)))) 0 = [AV.str s58] ∧ ∃ (s59 : List UInt8), List.length s59 ≤ 10000000 ∧ [AV.str s58] = [AV.str s59] ∧ ifP (!lowS s59 == [99, 104, 117, 110, 107, 101, 100]) (AV.tup [AV.agg [AV.int IntKind.i64 0, AV.int IntKind.i64 0], AV.bool true, AV.int IntKind.i64 4] = v) (AV.tup [AV.agg [AV.int IntKind.i64 2, AV.int IntKind.i64 0], AV.bool true, AV.int IntKind.i64 0] = v))))) (∃ (l60 : List Fld), ∃ (nm61 : List UInt8), ∃ (sz62 : Nat), (List.length l60 ≤ 10000000 ∧ ∀ (f63 : Fld), f63 ∈ l60 → List.length (Fld.name f63) ≤ 10000000 ∧ List.length (Fld.value f63) ≤ 10000000) ∧ szOk sz62 2 (List.length l60) ∧ List.length nm61 ≤ 10000000 ∧ [AV.sl sz (stripss 0 [] e) none, AV.str [99, 111, 110, 116, 101, 110, 116, 45, 108, 101, 110, 103, 116, 104]] = [AV.sl sz62 (encFs l60) none, AV.str nm61] ∧ ifP (!Prod.snd (pcsR (valuesOf l60 nm61))) (AV.tup [AV.agg [AV.int IntKind.i64 0, AV.int IntKind.i64 0], AV.bool true, AV.int IntKind.i64 4] = v) (gAnd (inR 0 (List.length (encS (Prod.fst (pcsR (valuesOf l60 nm61))))) && true && true) (∃ (s65 : List UInt8), getE (encS (Prod.fst (pcsR (valuesOf l60 nm61)))) 0 = [AV.str s65] ∧ ∃ (s66 : List UInt8), List.length s66 ≤ 10000000 ∧ [AV.str s65] = [AV.str s66] ∧ ToEnd cfg 34 (bodyOf Tryd.f34) (RetIs Tryd.prog Tryd.f34 v) [Fm.code [0, 1, 0, 1, 1, 1, 1, 1, 1, 1, 1, 1, 1], Fm.block 0, Fm.code [1, 1, 1, 1, 1, 1, 1, 1, 1, 1, 1]] XT.normal [(2, true, AV.ptr 0 0), (9, true, AV.sl 1 (encS (Prod.fst (pcsR (valuesOf l60 nm61)))) none), (11, true, AV.bool false), (12, true, AV.int IntKind.i64 (if numB s66 = true then (↑(numV s66) : Int) else 0)), (14, true, AV.int IntKind.i64 0)] [Blk.mem 30 [AV.int IntKind.i64 0, AV.int IntKind.i64 0]])))))) :
    ToEnd cfg 34 (bodyOf Tryd.f34) (RetIs Tryd.prog Tryd.f34 v) ([.code []]) .normal ([(0, true, .sl sz e none)]) ([]) := by
  have e : unr cfg 34 (bodyOf Tryd.f34) (ctab [(54, valuesC), (55, piecesRC), (57, Ai.numC), (56, lowerC)]) ⟨[[0, 1, 0, 1, 1, 1, 1, 1, 1, 1, 1, 1, 1]], [([0, 0, 1, 0, 1, 0, 1, 1, 1, 1, 1], 9, [.str]), ([0, 1, 1, 1, 1, 1, 1, 1, 1, 1], 1, [.str]), ([0, 0, 0, 1, 0, 0, 1, 0, 1, 1, 1, 1, 1, 1, 1, 1, 1, 1], 2, [.str])]⟩ (RetIs Tryd.prog Tryd.f34 v) 100000 ([.code []]) .normal ([(0, true, .sl sz e none)]) ([]) =
    (∃ (l1 : List Fld),
  ∃ (nm2 : List UInt8),
    ∃ (sz3 : Nat),
      (List.length l1 ≤ 10000000 ∧ ∀ (f4 : Fld), f4 ∈ l1 → List.length (Fld.name f4) ≤ 10000000 ∧ List.length (Fld.value f4) ≤ 10000000) ∧
        szOk sz3 2 (List.length l1) ∧
          List.length nm2 ≤ 10000000 ∧
            [AV.sl sz (stripss 0 [] e) none, AV.str [99, 111, 110, 116, 101, 110, 116, 45, 108, 101, 110, 103, 116, 104]] = [AV.sl sz3 (encFs l1) none, AV.str nm2] ∧
              ∃ (l6 : List Fld),
                ∃ (nm7 : List UInt8),
                  ∃ (sz8 : Nat),
                    (List.length l6 ≤ 10000000 ∧ ∀ (f9 : Fld), f9 ∈ l6 → List.length (Fld.name f9) ≤ 10000000 ∧ List.length (Fld.value f9) ≤ 10000000) ∧
                      szOk sz8 2 (List.length l6) ∧
                        List.length nm7 ≤ 10000000 ∧
                          [AV.sl sz (stripss 0 [] e) none, AV.str [116, 114, 97, 110, 115, 102, 101, 114, 45, 101, 110, 99, 111, 100, 105, 110, 103]] = [AV.sl sz8 (encFs l6) none, AV.str nm7] ∧
                            ifP ((↑(List.length (encS (valuesOf l1 nm2))) : Int) == 0)
                              (ifP ((↑(List.length (encS (valuesOf l6 nm7))) : Int) == 0) (AV.tup [AV.agg [AV.int IntKind.i64 0, AV.int IntKind.i64 0], AV.bool false, AV.int IntKind.i64 0] = v)
                                (ifP (decide ((↑(List.length (encS (valuesOf l1 nm2))) : Int) > 0)) (ifP (decide ((↑(List.length (encS (valuesOf l6 nm7))) : Int) > 0)) (AV.tup [AV.agg [AV.int IntKind.i64 0, AV.int IntKind.i64 0], AV.bool true, AV.int IntKind.i64 8] = v) (ifP (decide ((↑(List.length (encS (valuesOf l6 nm7))) : Int) > 0)) (∃ (l11 : List Fld), ∃ (nm12 : List UInt8), ∃ (sz13 : Nat), (List.length l11 ≤ 10000000 ∧ ∀ (f14 : Fld), f14 ∈ l11 → List.length (Fld.name f14) ≤ 10000000 ∧ List.length (Fld.value f14) ≤ 10000000) ∧ szOk sz13 2 (List.length l11) ∧ List.length nm12 ≤ 10000000 ∧ [AV.sl sz (stripss 0 [] e) none, AV.str [116, 114, 97, 110, 115, 102, 101, 114, 45, 101, 110, 99, 111, 100, 105, 110, 103]] = [AV.sl sz13 (encFs l11) none, AV.str nm12] ∧ ifP (!Prod.snd (pcsR (valuesOf l11 nm12))) (AV.tup [AV.agg [AV.int IntKind.i64 0, AV.int IntKind.i64 0], AV.bool true, AV.int IntKind.i64 4] = v) (ifP ((↑(List.length (encS (Prod.fst (pcsR (valuesOf l11 nm12))))) : Int) != 1) (AV.tup [AV.agg [AV.int IntKind.i64 0, AV.int IntKind.i64 0], AV.bool true, AV.int IntKind.i64 4] = v) (gAnd (inR 0 (List.length (encS (Prod.fst (pcsR (valuesOf l11 nm12))))) && true && true) (∃ (s16 : List UInt8), getE (encS (Prod.fst (pcsR (valuesOf l11 nm12)))) 0 = [AV.str s16] ∧ ∃ (s17 : List UInt8), List.length s17 ≤ 10000000 ∧ [AV.str s16] = [AV.str s17] ∧ ifP (!lowS s17 == [99, 104, 117, 110, 107, 101, 100]) (AV.tup [AV.agg [AV.int IntKind.i64 0, AV.int IntKind.i64 0], AV.bool true, AV.int IntKind.i64 4] = v) (AV.tup [AV.agg [AV.int IntKind.i64 2, AV.int IntKind.i64 0], AV.bool true, AV.int IntKind.i64 0] = v))))) (∃ (l18 : List Fld), ∃ (nm19 : List UInt8), ∃ (sz20 : Nat), (List.length l18 ≤ 10000000 ∧ ∀ (f21 : Fld), f21 ∈ l18 → List.length (Fld.name f21) ≤ 10000000 ∧ List.length (Fld.value f21) ≤ 10000000) ∧ szOk sz20 2 (List.length l18) ∧ List.length nm19 ≤ 10000000 ∧ [AV.sl sz (stripss 0 [] e) none, AV.str [99, 111, 110, 116, 101, 110, 116, 45, 108, 101, 110, 103, 116, 104]] = [AV.sl sz20 (encFs l18) none, AV.str nm19] ∧ ifP (!Prod.snd (pcsR (valuesOf l18 nm19))) (AV.tup [AV.agg [AV.int IntKind.i64 0, AV.int IntKind.i64 0], AV.bool true, AV.int IntKind.i64 4] = v) (gAnd (inR 0 (List.length (encS (Prod.fst (pcsR (valuesOf l18 nm19))))) && true && true) (∃ (s23 : List UInt8), getE (encS (Prod.fst (pcsR (valuesOf l18 nm19)))) 0 = [AV.str s23] ∧ ∃ (s24 : List UInt8), List.length s24 ≤ 10000000 ∧ [AV.str s23] = [AV.str s24] ∧ ToEnd cfg 34 (bodyOf Tryd.f34) (RetIs Tryd.prog Tryd.f34 v) [Fm.code [0, 1, 0, 1, 1, 1, 1, 1, 1, 1, 1, 1, 1], Fm.block 0, Fm.code [1, 1, 1, 1, 1, 1, 1, 1, 1, 1, 1]] XT.normal [(2, true, AV.ptr 0 0), (9, true, AV.sl 1 (encS (Prod.fst (pcsR (valuesOf l18 nm19)))) none), (11, true, AV.bool false), (12, true, AV.int IntKind.i64 (if numB s24 = true then (↑(numV s24) : Int) else 0)), (14, true, AV.int IntKind.i64 0)] [Blk.mem 30 [AV.int IntKind.i64 0, AV.int IntKind.i64 0]])))))
                                  (ifP (decide ((↑(List.length (encS (valuesOf l6 nm7))) : Int) > 0)) (∃ (l25 : List Fld), ∃ (nm26 : List UInt8), ∃ (sz27 : Nat), (List.length l25 ≤ 10000000 ∧ ∀ (f28 : Fld), f28 ∈ l25 → List.length (Fld.name f28) ≤ 10000000 ∧ List.length (Fld.value f28) ≤ 10000000) ∧ szOk sz27 2 (List.length l25) ∧ List.length nm26 ≤ 10000000 ∧ [AV.sl sz (stripss 0 [] e) none, AV.str [116, 114, 97, 110, 115, 102, 101, 114, 45, 101, 110, 99, 111, 100, 105, 110, 103]] = [AV.sl sz27 (encFs l25) none, AV.str nm26] ∧ ifP (!Prod.snd (pcsR (valuesOf l25 nm26))) (AV.tup [AV.agg [AV.int IntKind.i64 0, AV.int IntKind.i64 0], AV.bool true, AV.int IntKind.i64 4] = v) (ifP ((↑(List.length (encS (Prod.fst (pcsR (valuesOf l25 nm26))))) : Int) != 1) (AV.tup [AV.agg [AV.int IntKind.i64 0, AV.int IntKind.i64 0], AV.bool true, AV.int IntKind.i64 4] = v) (gAnd (inR 0 (List.length (encS (Prod.fst (pcsR (valuesOf l25 nm26))))) && true && true) (∃ (s30 : List UInt8), getE (encS (Prod.fst (pcsR (valuesOf l25 nm26)))) 0 = [AV.str s30] ∧ ∃ (s31 : List UInt8), List.length s31 ≤ 10000000 ∧ [AV.str s30] = [AV.str s31] ∧ ifP (!lowS s31 == [99, 104, 117, 110, 107, 101, 100]) (AV.tup [AV.agg [AV.int IntKind.i64 0, AV.int IntKind.i64 0], AV.bool true, AV.int IntKind.i64 4] = v) (AV.tup [AV.agg [AV.int IntKind.i64 2, AV.int IntKind.i64 0], AV.bool true, AV.int IntKind.i64 0] = v))))) (∃ (l32 : List Fld), ∃ (nm33 : List UInt8), ∃ (sz34 : Nat), (List.length l32 ≤ 10000000 ∧ ∀ (f35 : Fld), f35 ∈ l32 → List.length (Fld.name f35) ≤ 10000000 ∧ List.length (Fld.value f35) ≤ 10000000) ∧ szOk sz34 2 (List.length l32) ∧ List.length nm33 ≤ 10000000 ∧ [AV.sl sz (stripss 0 [] e) none, AV.str [99, 111, 110, 116, 101, 110, 116, 45, 108, 101, 110, 103, 116, 104]] = [AV.sl sz34 (encFs l32) none, AV.str nm33] ∧ ifP (!Prod.snd (pcsR (valuesOf l32 nm33))) (AV.tup [AV.agg [AV.int IntKind.i64 0, AV.int IntKind.i64 0], AV.bool true, AV.int IntKind.i64 4] = v) (gAnd (inR 0 (List.length (encS (Prod.fst (pcsR (valuesOf l32 nm33))))) && true && true) (∃ (s37 : List UInt8), getE (encS (Prod.fst (pcsR (valuesOf l32 nm33)))) 0 = [AV.str s37] ∧ ∃ (s38 : List UInt8), List.length s38 ≤ 10000000 ∧ [AV.str s37] = [AV.str s38] ∧ ToEnd cfg 34 (bodyOf Tryd.f34) (RetIs Tryd.prog Tryd.f34 v) [Fm.code [0, 1, 0, 1, 1, 1, 1, 1, 1, 1, 1, 1, 1], Fm.block 0, Fm.code [1, 1, 1, 1, 1, 1, 1, 1, 1, 1, 1]] XT.normal [(2, true, AV.ptr 0 0), (9, true, AV.sl 1 (encS (Prod.fst (pcsR (valuesOf l32 nm33)))) none), (11, true, AV.bool false), (12, true, AV.int IntKind.i64 (if numB s38 = true then (↑(numV s38) : Int) else 0)), (14, true, AV.int IntKind.i64 0)] [Blk.mem 30 [AV.int IntKind.i64 0, AV.int IntKind.i64 0]]))))))
                              (ifP (decide ((↑(List.length (encS (valuesOf l1 nm2))) : Int) > 0)) (ifP (decide ((↑(List.length (encS (valuesOf l6 nm7))) : Int) > 0)) (AV.tup [AV.agg [AV.int IntKind.i64 0, AV.int IntKind.i64 0], AV.bool true, AV.int IntKind.i64 8] = v) (ifP (decide ((↑(List.length (encS (valuesOf l6 nm7))) : Int) > 0)) (∃ (l39 : List Fld), ∃ (nm40 : List UInt8), ∃ (sz41 : Nat), (List.length l39 ≤ 10000000 ∧ ∀ (f42 : Fld), f42 ∈ l39 → List.length (Fld.name f42) ≤ 10000000 ∧ List.length (Fld.value f42) ≤ 10000000) ∧ szOk sz41 2 (List.length l39) ∧ List.length nm40 ≤ 10000000 ∧ [AV.sl sz (stripss 0 [] e) none, AV.str [116, 114, 97, 110, 115, 102, 101, 114, 45, 101, 110, 99, 111, 100, 105, 110, 103]] = [AV.sl sz41 (encFs l39) none, AV.str nm40] ∧ ifP (!Prod.snd (pcsR (valuesOf l39 nm40))) (AV.tup [AV.agg [AV.int IntKind.i64 0, AV.int IntKind.i64 0], AV.bool true, AV.int IntKind.i64 4] = v) (ifP ((↑(List.length (encS (Prod.fst (pcsR (valuesOf l39 nm40))))) : Int) != 1) (AV.tup [AV.agg [AV.int IntKind.i64 0, AV.int IntKind.i64 0], AV.bool true, AV.int IntKind.i64 4] = v) (gAnd (inR 0 (List.length (encS (Prod.fst (pcsR (valuesOf l39 nm40))))) && true && true) (∃ (s44 : List UInt8), getE (encS (Prod.fst (pcsR (valuesOf l39 nm40)))) 0 = [AV.str s44] ∧ ∃ (s45 : List UInt8), List.length s45 ≤ 10000000 ∧ [AV.str s44] = [AV.str s45] ∧ ifP (!lowS s45 == [99, 104, 117, 110, 107, 101, 100]) (AV.tup [AV.agg [AV.int IntKind.i64 0, AV.int IntKind.i64 0], AV.bool true, AV.int IntKind.i64 4] = v) (AV.tup [AV.agg [AV.int IntKind.i64 2, AV.int IntKind.i64 0], AV.bool true, AV.int IntKind.i64 0] = v))))) (∃ (l46 : List Fld), ∃ (nm47 : List UInt8), ∃ (sz48 : Nat), (List.length l46 ≤ 10000000 ∧ ∀ (f49 : Fld), f49 ∈ l46 → List.length (Fld.name f49) ≤ 10000000 ∧ List.length (Fld.value f49) ≤ 10000000) ∧ szOk sz48 2 (List.length l46) ∧ List.length nm47 ≤ 10000000 ∧ [AV.sl sz (stripss 0 [] e) none, AV.str [99, 111, 110, 116, 101, 110, 116, 45, 108, 101, 110, 103, 116, 104]] = [AV.sl sz48 (encFs l46) none, AV.str nm47] ∧ ifP (!Prod.snd (pcsR (valuesOf l46 nm47))) (AV.tup [AV.agg [AV.int IntKind.i64 0, AV.int IntKind.i64 0], AV.bool true, AV.int IntKind.i64 4] = v) (gAnd (inR 0 (List.length (encS (Prod.fst (pcsR (valuesOf l46 nm47))))) && true && true) (∃ (s51 : List UInt8), getE (encS (Prod.fst (pcsR (valuesOf l46 nm47)))) 0 = [AV.str s51] ∧ ∃ (s52 : List UInt8), List.length s52 ≤ 10000000 ∧ [AV.str s51] = [AV.str s52] ∧ ToEnd cfg 34 (bodyOf Tryd.f34) (RetIs Tryd.prog Tryd.f34 v) [Fm.code [0, 1, 0, 1, 1, 1, 1, 1, 1, 1, 1, 1, 1], Fm.block 0, Fm.code [1, 1, 1, 1, 1, 1, 1, 1, 1, 1, 1]] XT.normal [(2, true, AV.ptr 0 0), (9, true, AV.sl 1 (encS (Prod.fst (pcsR (valuesOf l46 nm47)))) none), (11, true, AV.bool false), (12, true, AV.int IntKind.i64 (if numB s52 = true then (↑(numV s52) : Int) else 0)), (14, true, AV.int IntKind.i64 0)] [Blk.mem 30 [AV.int IntKind.i64 0, AV.int IntKind.i64 0]])))))
                                (ifP (decide ((↑(List.length (encS (valuesOf l6 nm7))) : Int) > 0)) (∃ (l53 : List Fld), ∃ (nm54 : List UInt8), ∃ (sz55 : Nat), (List.length l53 ≤ 10000000 ∧ ∀ (f56 : Fld), f56 ∈ l53 → List.length (Fld.name f56) ≤ 10000000 ∧ List.length (Fld.value f56) ≤ 10000000) ∧ szOk sz55 2 (List.length l53) ∧ List.length nm54 ≤ 10000000 ∧ [AV.sl sz (stripss 0 [] e) none, AV.str [116, 114, 97, 110, 115, 102, 101, 114, 45, 101, 110, 99, 111, 100, 105, 110, 103]] = [AV.sl sz55 (encFs l53) none, AV.str nm54] ∧ ifP (!Prod.snd (pcsR (valuesOf l53 nm54))) (AV.tup [AV.agg [AV.int IntKind.i64 0, AV.int IntKind.i64 0], AV.bool true, AV.int IntKind.i64 4] = v) (ifP ((↑(List.length (encS (Prod.fst (pcsR (valuesOf l53 nm54))))) : Int) != 1) (AV.tup [AV.agg [AV.int IntKind.i64 0, AV.int IntKind.i64 0], AV.bool true, AV.int IntKind.i64 4] = v) (gAnd (inR 0 (List.length (encS (Prod.fst (pcsR (valuesOf l53 nm54))))) && true && true) (∃ (s58 : List UInt8), getE (encS (Prod.fst (pcsR (valuesOf l53 nm54)))) 0 = [AV.str s58] ∧ ∃ (s59 : List UInt8), List.length s59 ≤ 10000000 ∧ [AV.str s58] = [AV.str s59] ∧ ifP (!lowS s59 == [99, 104, 117, 110, 107, 101, 100]) (AV.tup [AV.agg [AV.int IntKind.i64 0, AV.int IntKind.i64 0], AV.bool true, AV.int IntKind.i64 4] = v) (AV.tup [AV.agg [AV.int IntKind.i64 2, AV.int IntKind.i64 0], AV.bool true, AV.int IntKind.i64 0] = v))))) (∃ (l60 : List Fld), ∃ (nm61 : List UInt8), ∃ (sz62 : Nat), (List.length l60 ≤ 10000000 ∧ ∀ (f63 : Fld), f63 ∈ l60 → List.length (Fld.name f63) ≤ 10000000 ∧ List.length (Fld.value f63) ≤ 10000000) ∧ szOk sz62 2 (List.length l60) ∧ List.length nm61 ≤ 10000000 ∧ [AV.sl sz (stripss 0 [] e) none, AV.str [99, 111, 110, 116, 101, 110, 116, 45, 108, 101, 110, 103, 116, 104]] = [AV.sl sz62 (encFs l60) none, AV.str nm61] ∧ ifP (!Prod.snd (pcsR (valuesOf l60 nm61))) (AV.tup [AV.agg [AV.int IntKind.i64 0, AV.int IntKind.i64 0], AV.bool true, AV.int IntKind.i64 4] = v) (gAnd (inR 0 (List.length (encS (Prod.fst (pcsR (valuesOf l60 nm61))))) && true && true) (∃ (s65 : List UInt8), getE (encS (Prod.fst (pcsR (valuesOf l60 nm61)))) 0 = [AV.str s65] ∧ ∃ (s66 : List UInt8), List.length s66 ≤ 10000000 ∧ [AV.str s65] = [AV.str s66] ∧ ToEnd cfg 34 (bodyOf Tryd.f34) (RetIs Tryd.prog Tryd.f34 v) [Fm.code [0, 1, 0, 1, 1, 1, 1, 1, 1, 1, 1, 1, 1], Fm.block 0, Fm.code [1, 1, 1, 1, 1, 1, 1, 1, 1, 1, 1]] XT.normal [(2, true, AV.ptr 0 0), (9, true, AV.sl 1 (encS (Prod.fst (pcsR (valuesOf l60 nm61)))) none), (11, true, AV.bool false), (12, true, AV.int IntKind.i64 (if numB s66 = true then (↑(numV s66) : Int) else 0)), (14, true, AV.int IntKind.i64 0)] [Blk.mem 30 [AV.int IntKind.i64 0, AV.int IntKind.i64 0]])))))) := by kernel_rfl
  exact unr_ok hT 100000 _ _ _ _ (e.mpr H)

theorem t34b {v : AV}   {e9 : List (List AV)} {b11 : Bool} {i12 : Int} {i14 : Int} {ih0_0 : Int} {ih0_1 : Int} (hT : TabOk cfg (ctab [(54, valuesC), (55, piecesRC), (57, Ai.numC), (56, lowerC)])) (H :
    ifP (decide (i14 < (↑(List.length e9) : Int))) (gAnd (inR i14 (List.length e9) && true && true) (∃ (s1 : List UInt8), getE e9 i14 = [AV.str s1] ∧ ∃ (s2 : List UInt8), List.length s2 ≤ 10000000 ∧ [AV.str s1] = [AV.str s2] ∧ ifP (!numB s2) (AV.tup [AV.agg [AV.int IntKind.i64 0, AV.int IntKind.i64 0], AV.bool true, AV.int IntKind.i64 4] = v) (ifP b11 (ToEnd cfg 34 (bodyOf Tryd.f34) (RetIs Tryd.prog Tryd.f34 v) [Fm.code [0, 1, 0, 1, 1, 1, 1, 1, 1, 1, 1, 1, 1], Fm.block 0, Fm.code [1, 1, 1, 1, 1, 1, 1, 1, 1, 1, 1]] XT.normal [(2, true, AV.ptr 0 0), (9, true, AV.sl 1 e9 none), (11, true, AV.bool true), (12, true, AV.int IntKind.i64 i12), (14, true, AV.int IntKind.i64 (IntKind.wrap IntKind.i64 (i14 + 1)))] [Blk.mem 30 [AV.int IntKind.i64 ih0_0, AV.int IntKind.i64 ih0_1]]) (ToEnd cfg 34 (bodyOf Tryd.f34) (RetIs Tryd.prog Tryd.f34 v) [Fm.code [0, 1, 0, 1, 1, 1, 1, 1, 1, 1, 1, 1, 1], Fm.block 0, Fm.code [1, 1, 1, 1, 1, 1, 1, 1, 1, 1, 1]] XT.normal [(2, true, AV.ptr 0 0), (9, true, AV.sl 1 e9 none), (11, true, AV.bool ((if numB s2 = true then (↑(numV s2) : Int) else 0) != i12)), (12, true, AV.int IntKind.i64 i12), (14, true, AV.int IntKind.i64 (IntKind.wrap IntKind.i64 (i14 + 1)))] [Blk.mem 30 [AV.int IntKind.i64 ih0_0, AV.int IntKind.i64 ih0_1]])))) (ifP b11 (AV.tup [AV.agg [AV.int IntKind.i64 0, AV.int IntKind.i64 0], AV.bool true, AV.int IntKind.i64 8] = v) (AV.tup [AV.agg [AV.int IntKind.i64 1, AV.int IntKind.i64 i12], AV.bool true, AV.int IntKind.i64 0] = v))) :
    ToEnd cfg 34 (bodyOf Tryd.f34) (RetIs Tryd.prog Tryd.f34 v) ([.code [0, 1, 0, 1, 1, 1, 1, 1, 1, 1, 1, 1, 1], Fm.block 0, Fm.code [1, 1, 1, 1, 1, 1, 1, 1, 1, 1, 1]]) .normal ([(2, true, AV.ptr 0 0), (9, true, AV.sl 1 e9 none), (11, true, AV.bool b11), (12, true, AV.int IntKind.i64 i12), (14, true, AV.int IntKind.i64 i14)]) ([Blk.mem 30 [AV.int IntKind.i64 ih0_0, AV.int IntKind.i64 ih0_1]]) := by
  have e : unr cfg 34 (bodyOf Tryd.f34) (ctab [(54, valuesC), (55, piecesRC), (57, Ai.numC), (56, lowerC)]) ⟨[[0, 1, 0, 1, 1, 1, 1, 1, 1, 1, 1, 1, 1]], [([0, 0, 1, 0, 1, 0, 1, 1, 1, 1, 1], 9, [.str]), ([0, 1, 1, 1, 1, 1, 1, 1, 1, 1], 1, [.str]), ([0, 0, 0, 1, 0, 0, 1, 0, 1, 1, 1, 1, 1, 1, 1, 1, 1, 1], 2, [.str])]⟩ (RetIs Tryd.prog Tryd.f34 v) 100000 ([.code [0, 0, 1, 0, 1, 1, 1, 1, 1, 1, 1, 1, 1, 1], .loop [0, 1, 0, 1, 1, 1, 1, 1, 1, 1, 1, 1, 1] 1, Fm.block 0, Fm.code [1, 1, 1, 1, 1, 1, 1, 1, 1, 1, 1]]) .normal ([(2, true, AV.ptr 0 0), (9, true, AV.sl 1 e9 none), (11, true, AV.bool b11), (12, true, AV.int IntKind.i64 i12), (14, true, AV.int IntKind.i64 i14)]) ([Blk.mem 30 [AV.int IntKind.i64 ih0_0, AV.int IntKind.i64 ih0_1]]) =
    (ifP (decide (i14 < (↑(List.length e9) : Int))) (gAnd (inR i14 (List.length e9) && true && true) (∃ (s1 : List UInt8), getE e9 i14 = [AV.str s1] ∧ ∃ (s2 : List UInt8), List.length s2 ≤ 10000000 ∧ [AV.str s1] = [AV.str s2] ∧ ifP (!numB s2) (AV.tup [AV.agg [AV.int IntKind.i64 0, AV.int IntKind.i64 0], AV.bool true, AV.int IntKind.i64 4] = v) (ifP b11 (ToEnd cfg 34 (bodyOf Tryd.f34) (RetIs Tryd.prog Tryd.f34 v) [Fm.code [0, 1, 0, 1, 1, 1, 1, 1, 1, 1, 1, 1, 1], Fm.block 0, Fm.code [1, 1, 1, 1, 1, 1, 1, 1, 1, 1, 1]] XT.normal [(2, true, AV.ptr 0 0), (9, true, AV.sl 1 e9 none), (11, true, AV.bool true), (12, true, AV.int IntKind.i64 i12), (14, true, AV.int IntKind.i64 (IntKind.wrap IntKind.i64 (i14 + 1)))] [Blk.mem 30 [AV.int IntKind.i64 ih0_0, AV.int IntKind.i64 ih0_1]]) (ToEnd cfg 34 (bodyOf Tryd.f34) (RetIs Tryd.prog Tryd.f34 v) [Fm.code [0, 1, 0, 1, 1, 1, 1, 1, 1, 1, 1, 1, 1], Fm.block 0, Fm.code [1, 1, 1, 1, 1, 1, 1, 1, 1, 1, 1]] XT.normal [(2, true, AV.ptr 0 0), (9, true, AV.sl 1 e9 none), (11, true, AV.bool ((if numB s2 = true then (↑(numV s2) : Int) else 0) != i12)), (12, true, AV.int IntKind.i64 i12), (14, true, AV.int IntKind.i64 (IntKind.wrap IntKind.i64 (i14 + 1)))] [Blk.mem 30 [AV.int IntKind.i64 ih0_0, AV.int IntKind.i64 ih0_1]])))) (ifP b11 (AV.tup [AV.agg [AV.int IntKind.i64 0, AV.int IntKind.i64 0], AV.bool true, AV.int IntKind.i64 8] = v) (AV.tup [AV.agg [AV.int IntKind.i64 1, AV.int IntKind.i64 i12], AV.bool true, AV.int IntKind.i64 0] = v))) := by kernel_rfl
  exact ends_round hT 100000 (by kernel_rfl) (e.mpr H)

theorem t15 {v : AV} {e : List (List AV)} {sz : Nat} (hT : TabOk cfg (ctab [(33, ofC)])) (H :
    ∃ (l1 : List Fld), ∃ (sz2 : Nat), ∃ (o3 : Int), okFw l1 ∧ szOk sz2 2 (List.length l1) ∧ [AV.sl sz (stripss 0 [] e) none, AV.int IntKind.i64 0] = [AV.sl sz2 (encFs l1) none, AV.int IntKind.i64 o3] ∧ ifP (decide (Prod.fst (Prod.snd (frm l1 o3)) > 65536)) (AV.tup [AV.agg [AV.int IntKind.i64 0, AV.int IntKind.i64 0], AV.int IntKind.i64 3] = v) (AV.tup [AV.agg [AV.int IntKind.i64 (Prod.fst (frm l1 o3)), AV.int IntKind.i64 (Prod.fst (Prod.snd (frm l1 o3)))], AV.int IntKind.i64 (Prod.snd (Prod.snd (frm l1 o3)))] = v)) :
    ToEnd cfg 15 (bodyOf Tryd.f15) (RetIs Tryd.prog Tryd.f15 v) ([.code []]) .normal ([(0, true, .sl sz e none)]) ([]) := by
  have e : unr cfg 15 (bodyOf Tryd.f15) (ctab [(33, ofC)]) ⟨[], []⟩ (RetIs Tryd.prog Tryd.f15 v) 100000 ([.code []]) .normal ([(0, true, .sl sz e none)]) ([]) =
    (∃ (l1 : List Fld), ∃ (sz2 : Nat), ∃ (o3 : Int), okFw l1 ∧ szOk sz2 2 (List.length l1) ∧ [AV.sl sz (stripss 0 [] e) none, AV.int IntKind.i64 0] = [AV.sl sz2 (encFs l1) none, AV.int IntKind.i64 o3] ∧ ifP (decide (Prod.fst (Prod.snd (frm l1 o3)) > 65536)) (AV.tup [AV.agg [AV.int IntKind.i64 0, AV.int IntKind.i64 0], AV.int IntKind.i64 3] = v) (AV.tup [AV.agg [AV.int IntKind.i64 (Prod.fst (frm l1 o3)), AV.int IntKind.i64 (Prod.fst (Prod.snd (frm l1 o3)))], AV.int IntKind.i64 (Prod.snd (Prod.snd (frm l1 o3)))] = v)) := by kernel_rfl
  exact unr_ok hT 100000 _ _ _ _ (e.mpr H)

theorem t16 {v : AV} {e : List (List AV)} {sz : Nat} (hT : TabOk cfg (ctab [(34, ofRC)])) (H :
    ∃ (l1 : List Fld), ∃ (sz2 : Nat), (List.length l1 ≤ 10000000 ∧ ∀ (f3 : Fld), f3 ∈ l1 → List.length (Fld.name f3) ≤ 10000000 ∧ List.length (Fld.value f3) ≤ 10000000) ∧ szOk sz2 2 (List.length l1) ∧ [AV.sl sz (stripss 0 [] e) none] = [AV.sl sz2 (encFs l1) none] ∧ ifP (Prod.snd (Prod.snd (frm l1 0)) != 0) (AV.tup [AV.agg [AV.int IntKind.i64 0, AV.int IntKind.i64 0], AV.int IntKind.i64 (Prod.snd (Prod.snd (frm l1 0)))] = v) (ifP (decide (Prod.fst (Prod.snd (frm l1 0)) > 65536)) (AV.tup [AV.agg [AV.int IntKind.i64 0, AV.int IntKind.i64 0], AV.int IntKind.i64 3] = v) (AV.tup [AV.agg [AV.int IntKind.i64 (Prod.fst (frm l1 0)), AV.int IntKind.i64 (Prod.fst (Prod.snd (frm l1 0)))], AV.int IntKind.i64 0] = v))) :
    ToEnd cfg 16 (bodyOf Tryd.f16) (RetIs Tryd.prog Tryd.f16 v) ([.code []]) .normal ([(0, true, .sl sz e none)]) ([]) := by
  have e : unr cfg 16 (bodyOf Tryd.f16) (ctab [(34, ofRC)]) ⟨[], []⟩ (RetIs Tryd.prog Tryd.f16 v) 100000 ([.code []]) .normal ([(0, true, .sl sz e none)]) ([]) =
    (∃ (l1 : List Fld), ∃ (sz2 : Nat), (List.length l1 ≤ 10000000 ∧ ∀ (f3 : Fld), f3 ∈ l1 → List.length (Fld.name f3) ≤ 10000000 ∧ List.length (Fld.value f3) ≤ 10000000) ∧ szOk sz2 2 (List.length l1) ∧ [AV.sl sz (stripss 0 [] e) none] = [AV.sl sz2 (encFs l1) none] ∧ ifP (Prod.snd (Prod.snd (frm l1 0)) != 0) (AV.tup [AV.agg [AV.int IntKind.i64 0, AV.int IntKind.i64 0], AV.int IntKind.i64 (Prod.snd (Prod.snd (frm l1 0)))] = v) (ifP (decide (Prod.fst (Prod.snd (frm l1 0)) > 65536)) (AV.tup [AV.agg [AV.int IntKind.i64 0, AV.int IntKind.i64 0], AV.int IntKind.i64 3] = v) (AV.tup [AV.agg [AV.int IntKind.i64 (Prod.fst (frm l1 0)), AV.int IntKind.i64 (Prod.fst (Prod.snd (frm l1 0)))], AV.int IntKind.i64 0] = v))) := by kernel_rfl
  exact unr_ok hT 100000 _ _ _ _ (e.mpr H)

theorem t18 {v : AV} {e : List (List AV)} {sz : Nat} {st : Int} {hd : Bool} (hT : TabOk cfg (ctab [(33, ofC)])) (H :
    ∃ (l1 : List Fld), ∃ (sz2 : Nat), ∃ (o3 : Int), okFw l1 ∧ szOk sz2 2 (List.length l1) ∧ [AV.sl sz (stripss 0 [] e) none, AV.int IntKind.i64 3] = [AV.sl sz2 (encFs l1) none, AV.int IntKind.i64 o3] ∧ ifP (Prod.snd (Prod.snd (frm l1 o3)) != 0) (AV.tup [AV.agg [AV.int IntKind.i64 0, AV.int IntKind.i64 0], AV.int IntKind.i64 (Prod.snd (Prod.snd (frm l1 o3)))] = v) (ifP hd (AV.tup [AV.agg [AV.int IntKind.i64 0, AV.int IntKind.i64 0], AV.int IntKind.i64 0] = v) (ifP (IntKind.wrap IntKind.i64 (Int.tdiv st 100) == 1) (AV.tup [AV.agg [AV.int IntKind.i64 0, AV.int IntKind.i64 0], AV.int IntKind.i64 0] = v) (ifP (st == 204) (AV.tup [AV.agg [AV.int IntKind.i64 0, AV.int IntKind.i64 0], AV.int IntKind.i64 0] = v) (ifP (st == 304) (AV.tup [AV.agg [AV.int IntKind.i64 0, AV.int IntKind.i64 0], AV.int IntKind.i64 0] = v) (ifP (decide (Prod.fst (Prod.snd (frm l1 o3)) > 262144)) (AV.tup [AV.agg [AV.int IntKind.i64 0, AV.int IntKind.i64 0], AV.int IntKind.i64 3] = v) (AV.tup [AV.agg [AV.int IntKind.i64 (Prod.fst (frm l1 o3)), AV.int IntKind.i64 (Prod.fst (Prod.snd (frm l1 o3)))], AV.int IntKind.i64 0] = v))))))) :
    ToEnd cfg 18 (bodyOf Tryd.f18) (RetIs Tryd.prog Tryd.f18 v) ([.code []]) .normal ([(0, true, .sl sz e none), (1, true, .int .i64 st), (2, true, .bool hd)]) ([]) := by
  have e : unr cfg 18 (bodyOf Tryd.f18) (ctab [(33, ofC)]) ⟨[], []⟩ (RetIs Tryd.prog Tryd.f18 v) 100000 ([.code []]) .normal ([(0, true, .sl sz e none), (1, true, .int .i64 st), (2, true, .bool hd)]) ([]) =
    (∃ (l1 : List Fld), ∃ (sz2 : Nat), ∃ (o3 : Int), okFw l1 ∧ szOk sz2 2 (List.length l1) ∧ [AV.sl sz (stripss 0 [] e) none, AV.int IntKind.i64 3] = [AV.sl sz2 (encFs l1) none, AV.int IntKind.i64 o3] ∧ ifP (Prod.snd (Prod.snd (frm l1 o3)) != 0) (AV.tup [AV.agg [AV.int IntKind.i64 0, AV.int IntKind.i64 0], AV.int IntKind.i64 (Prod.snd (Prod.snd (frm l1 o3)))] = v) (ifP hd (AV.tup [AV.agg [AV.int IntKind.i64 0, AV.int IntKind.i64 0], AV.int IntKind.i64 0] = v) (ifP (IntKind.wrap IntKind.i64 (Int.tdiv st 100) == 1) (AV.tup [AV.agg [AV.int IntKind.i64 0, AV.int IntKind.i64 0], AV.int IntKind.i64 0] = v) (ifP (st == 204) (AV.tup [AV.agg [AV.int IntKind.i64 0, AV.int IntKind.i64 0], AV.int IntKind.i64 0] = v) (ifP (st == 304) (AV.tup [AV.agg [AV.int IntKind.i64 0, AV.int IntKind.i64 0], AV.int IntKind.i64 0] = v) (ifP (decide (Prod.fst (Prod.snd (frm l1 o3)) > 262144)) (AV.tup [AV.agg [AV.int IntKind.i64 0, AV.int IntKind.i64 0], AV.int IntKind.i64 3] = v) (AV.tup [AV.agg [AV.int IntKind.i64 (Prod.fst (frm l1 o3)), AV.int IntKind.i64 (Prod.fst (Prod.snd (frm l1 o3)))], AV.int IntKind.i64 0] = v))))))) := by kernel_rfl
  exact unr_ok hT 100000 _ _ _ _ (e.mpr H)

theorem t19 {v : AV} {e : List (List AV)} {sz : Nat} {st : Int} {hd : Bool} (hT : TabOk cfg (ctab [(34, ofRC)])) (H :
    ∃ (l1 : List Fld), ∃ (sz2 : Nat), (List.length l1 ≤ 10000000 ∧ ∀ (f3 : Fld), f3 ∈ l1 → List.length (Fld.name f3) ≤ 10000000 ∧ List.length (Fld.value f3) ≤ 10000000) ∧ szOk sz2 2 (List.length l1) ∧ [AV.sl sz (stripss 0 [] e) none] = [AV.sl sz2 (encFs l1) none] ∧ ifP (Prod.snd (Prod.snd (frm l1 0)) != 0) (AV.tup [AV.agg [AV.int IntKind.i64 0, AV.int IntKind.i64 0], AV.int IntKind.i64 (Prod.snd (Prod.snd (frm l1 0)))] = v) (ifP hd (AV.tup [AV.agg [AV.int IntKind.i64 0, AV.int IntKind.i64 0], AV.int IntKind.i64 0] = v) (ifP (decide (st ≥ 100)) (ifP (decide (st ≤ 199)) (AV.tup [AV.agg [AV.int IntKind.i64 0, AV.int IntKind.i64 0], AV.int IntKind.i64 0] = v) (ifP (st == 204) (AV.tup [AV.agg [AV.int IntKind.i64 0, AV.int IntKind.i64 0], AV.int IntKind.i64 0] = v) (ifP (st == 304) (AV.tup [AV.agg [AV.int IntKind.i64 0, AV.int IntKind.i64 0], AV.int IntKind.i64 0] = v) (ifP (decide (Prod.fst (Prod.snd (frm l1 0)) > 262144)) (AV.tup [AV.agg [AV.int IntKind.i64 0, AV.int IntKind.i64 0], AV.int IntKind.i64 3] = v) (ifP (!!(List.isEmpty (valuesOf l1 [99, 111, 110, 116, 101, 110, 116, 45, 108, 101, 110, 103, 116, 104]) && List.isEmpty (valuesOf l1 [116, 114, 97, 110, 115, 102, 101, 114, 45, 101, 110, 99, 111, 100, 105, 110, 103]))) (AV.tup [AV.agg [AV.int IntKind.i64 3, AV.int IntKind.i64 0], AV.int IntKind.i64 0] = v) (AV.tup [AV.agg [AV.int IntKind.i64 (Prod.fst (frm l1 0)), AV.int IntKind.i64 (Prod.fst (Prod.snd (frm l1 0)))], AV.int IntKind.i64 0] = v)))))) (ifP (st == 204) (AV.tup [AV.agg [AV.int IntKind.i64 0, AV.int IntKind.i64 0], AV.int IntKind.i64 0] = v) (ifP (st == 304) (AV.tup [AV.agg [AV.int IntKind.i64 0, AV.int IntKind.i64 0], AV.int IntKind.i64 0] = v) (ifP (decide (Prod.fst (Prod.snd (frm l1 0)) > 262144)) (AV.tup [AV.agg [AV.int IntKind.i64 0, AV.int IntKind.i64 0], AV.int IntKind.i64 3] = v) (ifP (!!(List.isEmpty (valuesOf l1 [99, 111, 110, 116, 101, 110, 116, 45, 108, 101, 110, 103, 116, 104]) && List.isEmpty (valuesOf l1 [116, 114, 97, 110, 115, 102, 101, 114, 45, 101, 110, 99, 111, 100, 105, 110, 103]))) (AV.tup [AV.agg [AV.int IntKind.i64 3, AV.int IntKind.i64 0], AV.int IntKind.i64 0] = v) (AV.tup [AV.agg [AV.int IntKind.i64 (Prod.fst (frm l1 0)), AV.int IntKind.i64 (Prod.fst (Prod.snd (frm l1 0)))], AV.int IntKind.i64 0] = v)))))))) :
    ToEnd cfg 19 (bodyOf Tryd.f19) (RetIs Tryd.prog Tryd.f19 v) ([.code []]) .normal ([(0, true, .sl sz e none), (1, true, .int .i64 st), (2, true, .bool hd)]) ([]) := by
  have e : unr cfg 19 (bodyOf Tryd.f19) (ctab [(34, ofRC)]) ⟨[], []⟩ (RetIs Tryd.prog Tryd.f19 v) 100000 ([.code []]) .normal ([(0, true, .sl sz e none), (1, true, .int .i64 st), (2, true, .bool hd)]) ([]) =
    (∃ (l1 : List Fld), ∃ (sz2 : Nat), (List.length l1 ≤ 10000000 ∧ ∀ (f3 : Fld), f3 ∈ l1 → List.length (Fld.name f3) ≤ 10000000 ∧ List.length (Fld.value f3) ≤ 10000000) ∧ szOk sz2 2 (List.length l1) ∧ [AV.sl sz (stripss 0 [] e) none] = [AV.sl sz2 (encFs l1) none] ∧ ifP (Prod.snd (Prod.snd (frm l1 0)) != 0) (AV.tup [AV.agg [AV.int IntKind.i64 0, AV.int IntKind.i64 0], AV.int IntKind.i64 (Prod.snd (Prod.snd (frm l1 0)))] = v) (ifP hd (AV.tup [AV.agg [AV.int IntKind.i64 0, AV.int IntKind.i64 0], AV.int IntKind.i64 0] = v) (ifP (decide (st ≥ 100)) (ifP (decide (st ≤ 199)) (AV.tup [AV.agg [AV.int IntKind.i64 0, AV.int IntKind.i64 0], AV.int IntKind.i64 0] = v) (ifP (st == 204) (AV.tup [AV.agg [AV.int IntKind.i64 0, AV.int IntKind.i64 0], AV.int IntKind.i64 0] = v) (ifP (st == 304) (AV.tup [AV.agg [AV.int IntKind.i64 0, AV.int IntKind.i64 0], AV.int IntKind.i64 0] = v) (ifP (decide (Prod.fst (Prod.snd (frm l1 0)) > 262144)) (AV.tup [AV.agg [AV.int IntKind.i64 0, AV.int IntKind.i64 0], AV.int IntKind.i64 3] = v) (ifP (!!(List.isEmpty (valuesOf l1 [99, 111, 110, 116, 101, 110, 116, 45, 108, 101, 110, 103, 116, 104]) && List.isEmpty (valuesOf l1 [116, 114, 97, 110, 115, 102, 101, 114, 45, 101, 110, 99, 111, 100, 105, 110, 103]))) (AV.tup [AV.agg [AV.int IntKind.i64 3, AV.int IntKind.i64 0], AV.int IntKind.i64 0] = v) (AV.tup [AV.agg [AV.int IntKind.i64 (Prod.fst (frm l1 0)), AV.int IntKind.i64 (Prod.fst (Prod.snd (frm l1 0)))], AV.int IntKind.i64 0] = v)))))) (ifP (st == 204) (AV.tup [AV.agg [AV.int IntKind.i64 0, AV.int IntKind.i64 0], AV.int IntKind.i64 0] = v) (ifP (st == 304) (AV.tup [AV.agg [AV.int IntKind.i64 0, AV.int IntKind.i64 0], AV.int IntKind.i64 0] = v) (ifP (decide (Prod.fst (Prod.snd (frm l1 0)) > 262144)) (AV.tup [AV.agg [AV.int IntKind.i64 0, AV.int IntKind.i64 0], AV.int IntKind.i64 3] = v) (ifP (!!(List.isEmpty (valuesOf l1 [99, 111, 110, 116, 101, 110, 116, 45, 108, 101, 110, 103, 116, 104]) && List.isEmpty (valuesOf l1 [116, 114, 97, 110, 115, 102, 101, 114, 45, 101, 110, 99, 111, 100, 105, 110, 103]))) (AV.tup [AV.agg [AV.int IntKind.i64 3, AV.int IntKind.i64 0], AV.int IntKind.i64 0] = v) (AV.tup [AV.agg [AV.int IntKind.i64 (Prod.fst (frm l1 0)), AV.int IntKind.i64 (Prod.fst (Prod.snd (frm l1 0)))], AV.int IntKind.i64 0] = v)))))))) := by kernel_rfl
  exact unr_ok hT 100000 _ _ _ _ (e.mpr H)

end Go.Proofs.YtnncfdlpogjlkaaDoor
end

section
namespace Go.Proofs.YtnncfdlpogjlkaaDoor
open Go.Ai Go
set_option linter.unusedSimpArgs false
set_option linter.unusedVariables false
set_option linter.unnecessarySimpa false
set_option maxRecDepth 100000

theorem pf53 : pureFn cfg 53 Tryd.f53 := ⟨by kernel_rfl, by kernel_rfl, by kernel_rfl, by kernel_rfl, by kernel_rfl, by kernel_rfl⟩
theorem pf52 : pureFn cfg 52 Tryd.f52 := ⟨by kernel_rfl, by kernel_rfl, by kernel_rfl, by kernel_rfl, by kernel_rfl, by kernel_rfl⟩
theorem pf55 : pureFn cfg 55 Tryd.f55 := ⟨by kernel_rfl, by kernel_rfl, by kernel_rfl, by kernel_rfl, by kernel_rfl, by kernel_rfl⟩
theorem pf33 : pureFn cfg 33 Tryd.f33 := ⟨by kernel_rfl, by kernel_rfl, by kernel_rfl, by kernel_rfl, by kernel_rfl, by kernel_rfl⟩
theorem pf34 : pureFn cfg 34 Tryd.f34 := ⟨by kernel_rfl, by kernel_rfl, by kernel_rfl, by kernel_rfl, by kernel_rfl, by kernel_rfl⟩
theorem pf15 : pureFn cfg 15 Tryd.f15 := ⟨by kernel_rfl, by kernel_rfl, by kernel_rfl, by kernel_rfl, by kernel_rfl, by kernel_rfl⟩
theorem pf16 : pureFn cfg 16 Tryd.f16 := ⟨by kernel_rfl, by kernel_rfl, by kernel_rfl, by kernel_rfl, by kernel_rfl, by kernel_rfl⟩
theorem pf18 : pureFn cfg 18 Tryd.f18 := ⟨by kernel_rfl, by kernel_rfl, by kernel_rfl, by kernel_rfl, by kernel_rfl, by kernel_rfl⟩
theorem pf19 : pureFn cfg 19 Tryd.f19 := ⟨by kernel_rfl, by kernel_rfl, by kernel_rfl, by kernel_rfl, by kernel_rfl, by kernel_rfl⟩

theorem loop53 {sz : Nat} : ∀ (r pre acc : List (List UInt8)), okSs (pre ++ r) → szOk sz 1 (pre ++ r).length → acc.length ≤ 64 * pre.length →
    ToEnd cfg 53 (bodyOf Tryd.f53) (RetIs Tryd.prog Tryd.f53 (ansV (finE acc (pcs r)))) [.code [0, 1, 0, 1], .block 0, .code [1, 1]] .normal
      [(2, true, .sl 1 (encS acc) (some 0)), (8, true, .sl sz (encS (pre ++ r)) none), (9, true, .int .i64 ((encS (pre ++ r)).length : Nat)), (10, true, .int .i64 pre.length)] [.grow acc.length 1 9] := by
  have hT : TabOk cfg (ctab [(75, splitC)]) := ctab_ok (ctab_cons c75 ctab_nil)
  intro r
  induction r with
  | nil =>
    intro pre acc ho hs ha
    refine t53b hT (ifP_intro (fun c => ?_) fun _ => ifP_intro (fun c => ?_) fun c => ?_)
    · simp [encS_len] at c
    · have : acc = [] := by rw [encS_len] at c; cases acc <;> simp_all; omega
      subst this; rfl
    · have : acc ≠ [] := by rintro rfl; simp [encS] at c
      rw [stripss_encS, pcs, finE, if_neg (by simpa using this), List.append_nil]; rfl
  | cons x r ih =>
    intro pre acc ho hs ha
    have hlen : pre.length + 1 ≤ lim := by have := ho.1; simp at this; omega
    have hx := ho.2 x (by simp)
    have hin : (inR (pre.length : Int) (encS (pre ++ x :: r)).length && Nat.beq sz 1 && Nat.ble 1 sz) = true := by
      rw [encS_len, inR_nat (by simp), Bool.true_and]
      exact hs.beq (by simp; omega) (by decide)
    have e : encS acc ++ encS (splitS 44 x).1 = encS (acc ++ (splitS 44 x).1) := (encS_app _ _).symm
    refine t53b hT (ifP_intro (fun _ => gAnd_intro hin ⟨x, getE_ss _ _ _, x, 44, hx, by decide, by decide, rfl, ifP_intro (fun b => ?_) fun b => gAnd_intro ?_ (gAnd_intro ?_ ?_)⟩) fun c => ?_)
    · rw [(fin_stop (ne_of_bne b)).1]; rfl
    · have h64 := splitS_len 44 x
      rw [encS_len, encS_len, tag_ok rfl, decide_eq_true (by unfold lim at hlen; omega)]; rfl
    · rw [e, low_encS, low_encS]; rfl
    · rw [e, wrap_n (by omega), (fin_step (eq_of_bne b)).1]
      have h64 := splitS_len 44 x
      have := ih (pre ++ [x]) (acc ++ (splitS 44 x).1) (by simpa using ho) (by simpa using hs) (by simp; omega)
      simpa [encS_len] using this
    · simp [encS_len] at c; omega
theorem c53 : COk cfg 53 piecesC := by
  refine cok_pure pf53 fun vs h K ht => ?_
  obtain ⟨l, sz, ho, hs, rfl, hk⟩ := ht
  refine ⟨_, hk, t53a (ctab_ok (ctab_cons c75 ctab_nil)) ?_⟩
  have := loop53 l [] [] ho hs (Nat.le_refl _)
  rw [finE_nil] at this
  exact this
theorem loop55 : ∀ (r pre acc : List (List UInt8)) (g : Nat), okSs (pre ++ r) → acc.length ≤ 64 * pre.length →
    ToEnd cfg 55 (bodyOf Tryd.f55) (RetIs Tryd.prog Tryd.f55 (.tup [.sl 1 (encS (finR acc (pcs r)).1) none, .bool (finR acc (pcs r)).2])) [.code [0, 1, 0, 1, 1, 1], .block 0, .code [1, 1, 1, 1]] .normal
      [(6, true, .sl 1 (encS acc) (some 1)), (7, true, .sl 1 (encS (pre ++ r)) none), (8, true, .int .i64 pre.length)] [.grow g 1 9, .grow acc.length 1 9] := by
  have hT : TabOk cfg (ctab [(54, valuesC), (76, splitC)]) := ctab_ok (ctab_cons c54 (ctab_cons c76 ctab_nil))
  intro r
  induction r with
  | nil =>
    intro pre acc g ho ha
    refine t55b hT (ifP_intro (fun c => ?_) fun _ => ?_)
    · simp [encS_len] at c
    · rw [stripss_encS, pcs, finR, List.append_nil, encS_len]
      cases acc with
      | nil => rfl
      | cons a acc => rw [pos_cons]; rfl
  | cons x r ih =>
    intro pre acc g ho ha
    have hlen : pre.length + 1 ≤ lim := by have := ho.1; simp at this; omega
    have hx := ho.2 x (by simp)
    have hin : (inR (pre.length : Int) (encS (pre ++ x :: r)).length && true && true) = true := by
      rw [encS_len, inR_nat (by simp)]; rfl
    have e : encS acc ++ encS (splitS 44 x).1 = encS (acc ++ (splitS 44 x).1) := (encS_app _ _).symm
    refine t55b hT (ifP_intro (fun _ => gAnd_intro hin ⟨x, getE_ss _ _ _, x, 44, hx, by decide, by decide, rfl, ifP_intro (fun b => ?_) fun b => gAnd_intro ?_ (gAnd_intro ?_ ?_)⟩) fun c => ?_)
    · rw [(fin_stop (ne_of_bne b)).2]; rfl
    · have h64 := splitS_len 44 x
      rw [encS_len, encS_len, tag_ok rfl, decide_eq_true (by unfold lim at hlen; omega)]; rfl
    · rw [e, low_encS, low_encS]; rfl
    · rw [e, wrap_n (by omega), (fin_step (eq_of_bne b)).2]
      have h64 := splitS_len 44 x
      have := ih (pre ++ [x]) (acc ++ (splitS 44 x).1) g (by simpa using ho) (by simp; omega)
      simpa [encS_len] using this
    · simp [encS_len] at c; omega
theorem c55 : COk cfg 55 piecesRC := by
  refine cok_pure pf55 fun vs h K ht => ?_
  obtain ⟨l, nm, sz, ho, hs, hn, rfl, hk⟩ := ht
  refine ⟨_, hk, t55a (ctab_ok (ctab_cons c54 (ctab_cons c76 ctab_nil))) ⟨l, nm, sz, ho, hs, hn, by rw [stripss_encFs], ?_⟩⟩
  have := loop55 (valuesOf l nm) [] [] 0 (okSs_values ho nm) (Nat.le_refl _)
  rw [finR_nil] at this
  exact this

theorem c74 : COk cfg 74 Ai.atoiC := by
  refine cok_prim (by kernel_rfl) (by kernel_rfl) (by kernel_rfl : cfg.prim 74 = some pAtoi) (by kernel_rfl) fun vs h K ht => ?_
  obtain ⟨s, hl, rfl, hk⟩ := ht
  refine ⟨.tup [.int .i64 (atoiV s), .top], hk, ?_⟩
  have : Nat.blt s.length 4294967281 = true := Nat.ble_eq_true_of_le (by unfold lim at hl; omega)
  simp only [pAtoi, this]

/-! Lengths -/
def encI (l : List Nat) : List (List AV) := l.map fun (n : Nat) => [AV.int .i64 ((n : Nat) : Int)]
theorem encI_len (l : List Nat) : (encI l).length = l.length := by simp [encI]
theorem low_encI (n : Nat) (l : List Nat) : lowVss n (encI l) = true := lowss_pure n _ fun x hx => by
  obtain ⟨b, _, rfl⟩ := List.mem_map.1 hx
  rfl
theorem getE_is (pre r : List Nat) (x : Nat) : getE (encI (pre ++ x :: r)) (pre.length : Nat) = [.int .i64 (x : Int)] := by
  unfold getE encI
  simp
/-- Numbers that must be the same. -/
def sameN (n : Nat) (l : List Nat) : Int × Int := if l.all (fun m => m == n) = true then ((n : Nat), 0) else (0, 8)
theorem tab52 : TabOk cfg (ctab [(53, piecesC), (66, trimSC), (74, Ai.atoiC)]) := ctab_ok (ctab_cons c53 (ctab_cons c66 (ctab_cons c74 ctab_nil)))
theorem sameN_cons (n m : Nat) (l : List Nat) : sameN n (m :: l) = if m = n then sameN n l else (0, 8) := by
  unfold sameN
  rw [List.all_cons]
  by_cases h : m = n
  · subst h; simp
  · have : (m == n) = false := beq_eq_false_iff_ne.2 h
    rw [this, if_neg h]; rfl
theorem loop52c : ∀ (r pre : List Nat) (n : Nat) (t : List Nat), pre ++ r = n :: t → (pre ++ r).length ≤ 100 * lim →
    ToEnd cfg 52 (bodyOf Tryd.f52) (RetIs Tryd.prog Tryd.f52 (.tup [.int .i64 (sameN n r).1, .int .i64 (sameN n r).2])) [.code [0, 1, 0, 1, 1, 1, 1, 1], .block 2, .code [1, 1, 1, 1, 1, 1]] .normal
      [(6, true, .sl 1 (encI (pre ++ r)) (some 0)), (45, true, .sl 1 (encI (pre ++ r)) (some 0)), (46, true, .int .i64 ((encI (pre ++ r)).length : Nat)), (47, true, .int .i64 pre.length)] [.grow (pre ++ r).length 1 3] := by
  intro r
  have first : ∀ (l t : List Nat) (n : Nat), l = n :: t → (inR 0 (encI l).length && true && true) = true ∧ getE (encI l) 0 = [.int .i64 (n : Int)] := fun l t n h => by
    subst h
    exact ⟨by rw [encI_len, inR_of (by omega) (by simp)]; rfl, getE_is [] t n⟩
  induction r with
  | nil =>
    intro pre n t he hl
    refine t52c tab52 (ifP_intro (fun c => ?_) fun _ => gAnd_intro (first _ t n he).1 ⟨_, (first _ t n he).2, rfl⟩)
    simp [encI_len] at c
  | cons x r ih =>
    intro pre n t he hl
    have hlen : pre.length + 1 ≤ 100 * lim := by simp at hl; omega
    refine t52c tab52 (ifP_intro (fun _ => gAnd_intro (by rw [encI_len, inR_nat (by simp)]; rfl) ⟨_, getE_is _ _ _, gAnd_intro (first _ t n he).1 ⟨_, (first _ t n he).2, ifP_intro (fun b => ?_) fun b => gAnd_intro (by rw [low_encI]; rfl) ?_⟩⟩) fun c => ?_)
    · have : x ≠ n := by rintro rfl; simp at b
      rw [sameN_cons, if_neg this]
    · have : x = n := by simpa [bne, Int.ofNat_inj] using b
      have hw : IntKind.wrap .i64 ((pre.length : Int) + 1) = ((pre.length + 1 : Nat) : Int) := by unfold lim at hlen; rw [wrap_in (by omega) (by omega)]; omega
      rw [sameN_cons, if_pos this, hw]
      have := ih (pre ++ [x]) n t (by simpa using he) (by simpa using hl)
      simpa using this
    · simp [encI_len] at c; omega
def lenW (acc : List Nat) (r : List (List UInt8)) : Int × Int := if r.all numB = true then sameN ((acc ++ r.map numV).headD 0) (acc ++ r.map numV) else (0, 4)
theorem lenW_nil (ps : List (List UInt8)) : lenW [] ps = lenV ps := by
  unfold lenW lenV sameN
  cases ps with
  | nil => rfl
  | cons p ps =>
    simp only [List.nil_append, List.all_map, Function.comp_def]
    rfl
theorem loop52b : ∀ (r pre : List (List UInt8)) (acc : List Nat), (pre ++ r).length ≤ 64 * lim → pre ++ r ≠ [] → acc.length = pre.length → (∀ p ∈ r, p ≠ [] ∧ p.length ≤ lim) →
    ToEnd cfg 52 (bodyOf Tryd.f52) (RetIs Tryd.prog Tryd.f52 (.tup [.int .i64 (lenW acc r).1, .int .i64 (lenW acc r).2])) [.code [0, 1, 0, 1, 1, 1, 1], .block 0, .code [1, 1, 1, 1, 1]] .normal
      [(6, true, .sl 1 (encI acc) (some 0)), (21, true, .sl 1 (encS (pre ++ r)) none), (22, true, .int .i64 ((encS (pre ++ r)).length : Nat)), (23, true, .int .i64 pre.length)] [.grow acc.length 1 3] := by
  intro r
  induction r with
  | nil =>
    intro pre acc hl hne ha hp
    refine t52b tab52 (ifP_intro (fun c => ?_) fun _ => ?_)
    · simp [encS_len] at c
    · obtain ⟨n, t, rfl⟩ : ∃ n t, acc = n :: t := by
        cases acc with
        | nil => rw [List.append_nil] at hne; exact absurd (List.eq_nil_of_length_eq_zero ha.symm) hne
        | cons n t => exact ⟨n, t, rfl⟩
      have := loop52c (n :: t) [] n t rfl (by simp at ha hl ⊢; omega)
      have e : lenW (n :: t) [] = sameN n (n :: t) := by simp [lenW]
      rw [e]
      exact this
  | cons x r ih =>
    intro pre acc hl hne ha hp
    have hlen : pre.length + 1 ≤ 64 * lim := by simp at hl; omega
    obtain ⟨hx0, hx1⟩ := hp x (by simp)
    have bad : numB x = false → AV.tup [.int .i64 0, .int .i64 4] = AV.tup [.int .i64 (lenW acc (x :: r)).1, .int .i64 (lenW acc (x :: r)).2] := fun h => by
      unfold lenW
      rw [List.all_cons, h]; rfl
    have e : ∀ z : Int, z = (numV x : Nat) → encI acc ++ [[AV.int .i64 z]] = encI (acc ++ [numV x]) := fun z hz => by subst hz; simp [encI]
    refine t52b tab52 (ifP_intro (fun _ => gAnd_intro (by rw [encS_len, inR_nat (by simp)]; rfl) ⟨x, getE_ss _ _ _, ifP_intro (fun b => bad ?_) fun b => ⟨x, dgS, hx1, by decide, by decide, rfl, ifP_intro (fun c => bad ?_) fun c => ⟨x, hx1, rfl, ?_⟩⟩⟩) fun c => ?_)
    · simp only [gt_iff_lt, decide_eq_true_eq] at b
      unfold numB
      rw [decide_eq_false (by omega)]; simp
    · simp only [gt_iff_lt, decide_eq_false_iff_not] at b
      rw [numB_of hx0 (by omega)]
      have : ¬ Lib.trimS x dgS = [] := by simpa using c
      rw [trim_dg] at this
      simpa using this
    · simp only [gt_iff_lt, decide_eq_false_iff_not] at b
      have hn : numB x = true := by
        rw [numB_of hx0 (by omega), ← trim_dg]
        simpa using c
      have hw : IntKind.wrap .i64 ((pre.length : Int) + 1) = ((pre.length + 1 : Nat) : Int) := by unfold lim at hlen; rw [wrap_in (by omega) (by omega)]; omega
      refine gAnd_intro ?_ (gAnd_intro ?_ ?_)
      · rw [encI_len, tag_ok rfl, decide_eq_true (by unfold lim at hlen; omega)]; rfl
      · rw [e _ (atoi_num hn), low_encI, low_encS]; rfl
      · rw [e _ (atoi_num hn), encI_len, hw]
        have := ih (pre ++ [x]) (acc ++ [numV x]) (by simpa using hl) (by simp) (by simp [ha]) (fun p h => hp p (by simp [h]))
        have e2 : lenW acc (x :: r) = lenW (acc ++ [numV x]) r := by
          unfold lenW
          rw [List.all_cons, hn, Bool.true_and, List.map_cons, List.append_assoc, List.singleton_append]
        rw [e2]
        simpa using this
    · simp [encS_len] at c; omega
theorem c52 : COk cfg 52 lengthC := by
  refine cok_pure pf52 fun vs h K ht => ?_
  obtain ⟨l, sz, ho, hs, rfl, hk⟩ := ht
  refine ⟨_, hk, t52a tab52 ⟨l, sz, ho, hs, by rw [stripss_encS], ?_⟩⟩
  have hm := fun ps (h : pcs l = some ps) => pcs_mem ho.2 h
  have hln := fun ps (h : pcs l = some ps) => pcs_len h
  have hl := ho.1
  unfold pcsE lenA
  cases hq : pcs l with
  | none => exact ifP_intro (fun _ => rfl) fun b => by simp at b
  | some ps =>
    cases ps with
    | nil => exact ifP_intro (fun _ => rfl) fun b => by simp at b
    | cons p ps =>
      refine ifP_intro (fun b => by simp at b) fun _ => ?_
      have := loop52b (p :: ps) [] [] (by have := hln _ hq; simp at this ⊢; omega) (by simp) rfl (hm _ hq)
      rw [lenW_nil] at this
      exact this
end Go.Proofs.YtnncfdlpogjlkaaDoor
end

section
namespace Go.Proofs.YtnncfdlpogjlkaaDoor
open Go.Ai Go
set_option linter.unusedSimpArgs false
set_option linter.unusedVariables false
set_option linter.unnecessarySimpa false
set_option maxRecDepth 100000

theorem byLen_eq (a : List (List UInt8)) : byLen a = if (lenA a).2 = 0 then (1, (lenA a).1, 0) else (0, 0, (lenA a).2) := by
  unfold byLen lenA
  cases pcs a with
  | none => rfl
  | some ps => cases ps <;> rfl
theorem ch_low : lowS chS = chS := by decide
theorem ofV_len {a : List UInt8} {A : List (List UInt8)} (o : Int) : ofV (a :: A) [] o = byLen (a :: A) := by simp [ofV]
theorem ofV_cod {b : List UInt8} {B : List (List UInt8)} (o : Int) : ofV [] (b :: B) o = byCod (b :: B) := by simp [ofV]
theorem ofV_both {a b : List UInt8} {A B : List (List UInt8)} (o : Int) : ofV (a :: A) (b :: B) o = (0, 0, 8) := by simp [ofV]
theorem ofV_none (o : Int) : ofV [] [] o = (o, 0, 0) := by simp [ofV]
theorem tab33 : TabOk cfg (ctab [(20, valuesB), (52, lengthC), (53, piecesC), (35, likeB)]) := ctab_ok (ctab_cons c20 (ctab_cons c52 (ctab_cons c53 (ctab_cons c35 ctab_nil))))
theorem c33 : COk cfg 33 ofC := by
  refine cok_pure pf33 fun vs h K ht => ?_
  obtain ⟨l, sz, o, ho, hs, rfl, hk⟩ := ht
  refine ⟨_, hk, t33 tab33 ⟨l, clS, sz, ho.1, hs, by decide, by rw [stripss_encFs]; rfl, l, teS, sz, ho.1, hs, by decide, by rw [stripss_encFs]; rfl, ?_⟩⟩
  have hA := ho.2.1
  have hB := ho.2.2
  have hf : frm l o = ofV (valuesOf l clS) (valuesOf l teS) o := rfl
  rw [hf]
  generalize valuesOf l clS = A at *
  generalize valuesOf l teS = B at *
  simp only [encS_len, stripss_encS]
  cases A with
  | nil =>
    cases B with
    | nil => simp only [pos_nil, ifP_false, ofV_none]
    | cons b B =>
      simp only [pos_nil, pos_cons, ifP_false, ifP_true, ofV_cod]
      refine ⟨b :: B, 1, hB, .inl rfl, rfl, ?_⟩
      have hm := fun ps (h : pcs (b :: B) = some ps) => pcs_mem hB.2 h
      unfold pcsE byCod
      cases hq : pcs (b :: B) with
      | none => exact ifP_intro (fun _ => rfl) fun c => by simp at c
      | some ps =>
        match ps, hq with
        | [], _ => exact ifP_intro (fun _ => rfl) fun c => by simp at c
        | [p], hq =>
          refine ifP_intro (fun c => by simp at c) fun _ => ifP_intro (fun c => by simp at c) fun _ => gAnd_intro (by rfl) ⟨p, rfl, p, chS, Nat.le_trans (hm _ hq p (by simp)).2 (by decide), by decide, rfl, ?_⟩
          rw [ch_low]
          refine ifP_intro (fun c => ?_) fun c => ?_
          · simp only [if_neg (show ¬ lowS p = chS from by simpa using c)]
          · simp only [if_pos (show lowS p = chS from by simpa using c)]
        | p :: q :: t, _ => exact ifP_intro (fun c => by simp at c) fun _ => ifP_intro (fun _ => rfl) fun c => by simp [bne] at c; omega
  | cons a A =>
    cases B with
    | nil =>
      simp only [pos_nil, pos_cons, ifP_false, ifP_true, ofV_len, byLen_eq]
      refine ⟨a :: A, 1, hA, .inl rfl, rfl, ifP_intro (fun c => ?_) fun c => ?_⟩
      · rw [if_neg (ne_of_bne c)]
      · rw [if_pos (eq_of_bne c)]
    | cons b B => simp only [pos_cons, ifP_true, ofV_both]
theorem tab15 : TabOk cfg (ctab [(33, ofC)]) := ctab_ok (ctab_cons c33 ctab_nil)
theorem c15b : COk cfg 15 askFB := by
  refine cok_pure pf15 fun vs h K ht => ?_
  obtain ⟨l, sz, ho, hs, rfl, hk⟩ := ht
  refine ⟨_, hk, t15 tab15 ⟨l, sz, 0, ho, hs, by rw [stripss_encFs], ifP_intro (fun c => ?_) fun c => ?_⟩⟩
  · simp only [gt_iff_lt, decide_eq_true_eq] at c
    rw [asksF, if_pos c]
  · simp only [gt_iff_lt, decide_eq_false_iff_not] at c
    rw [asksF, if_neg c]
theorem c15 : COk cfg 15 askFC := fun ls h K ⟨l, sz, ho, r⟩ => c15b ls h K ⟨l, sz, okFw_of ho, r⟩
theorem bare_quo {st : Int} (h0 : -9223372036854775808 ≤ st) (h1 : st ≤ 9223372036854775807) : (IntKind.wrap .i64 (Int.tdiv st 100) == 1) = (decide (100 ≤ st) && decide (st ≤ 199)) := by
  have e : IntKind.wrap .i64 (Int.tdiv st 100) = Int.tdiv st 100 := by
    rcases Int.le_total 0 st with h | h
    · rw [Int.tdiv_eq_ediv_of_nonneg h, wrap_in (by omega) (by omega)]
    · have := Int.neg_tdiv (a := -st) (b := 100)
      rw [Int.neg_neg] at this
      rw [this, Int.tdiv_eq_ediv_of_nonneg (by omega), wrap_in (by omega) (by omega)]
  rw [e, Bool.eq_iff_iff, beq_iff_eq, Bool.and_eq_true, decide_eq_true_eq, decide_eq_true_eq]
  rcases Int.le_total 0 st with h | h
  · rw [Int.tdiv_eq_ediv_of_nonneg h]; omega
  · have := Int.neg_tdiv (a := -st) (b := 100)
    rw [Int.neg_neg] at this
    rw [this, Int.tdiv_eq_ediv_of_nonneg (by omega)]; omega
theorem c18b : COk cfg 18 tellFB := by
  refine cok_pure pf18 fun vs h K ht => ?_
  obtain ⟨l, sz, st, hd, ho, hs, h0, h1, rfl, hk⟩ := ht
  refine ⟨_, hk, t18 tab15 ⟨l, sz, 3, ho, hs, by rw [stripss_encFs], ?_⟩⟩
  rw [bare_quo h0 h1]
  have hb : ∀ p q r : Bool, bareB st = (p || q || r) → p = (decide (100 ≤ st) && decide (st ≤ 199)) → q = (st == 204) → r = (st == 304) → True := fun _ _ _ _ _ _ _ => trivial
  have key : bareB st = ((decide (100 ≤ st) && decide (st ≤ 199)) || (st == 204) || (st == 304)) := by
    rw [Bool.eq_iff_iff]; simp [bareB]
  unfold tellsF
  rw [key]
  refine ifP_intro (fun c => ?_) fun c => ?_
  · rw [if_pos (ne_of_bne c)]
  · rw [if_neg (by simpa using eq_of_bne c)]
    refine ifP_intro (fun d => by rw [if_pos (.inl d)]) fun d => ifP_intro (fun e => by rw [if_pos (.inr (by rw [e]; rfl))]) fun e => ifP_intro (fun f => by rw [if_pos (.inr (by rw [f]; simp))]) fun f => ifP_intro (fun g => by rw [if_pos (.inr (by rw [g]; simp))]) fun g => ?_
    rw [if_neg (by rw [d, e, f, g]; simp)]
    refine ifP_intro (fun i => ?_) fun i => ?_
    · simp only [gt_iff_lt, decide_eq_true_eq] at i
      rw [if_pos i]
    · simp only [gt_iff_lt, decide_eq_false_iff_not] at i
      rw [if_neg i]

/-! The document's -/
def numQ (q : List UInt8) : Int := if numB q = true then (numV q : Nat) else 0
def resL (F : Int) (fl : Bool) (r : List (List UInt8)) : Int × Int × Int := if r.all numB = true then (if (fl || r.any (fun q => numQ q != F)) = true then (0, 0, 8) else (1, F, 0)) else (0, 0, 4)
def frA (x : Int × Int × Int) (b : Bool) : AV := .tup [.agg [.int .i64 x.1, .int .i64 x.2.1], .bool b, .int .i64 x.2.2]
theorem c18 : COk cfg 18 tellFC := fun ls h K ⟨l, sz, st, hd, ho, r⟩ => c18b ls h K ⟨l, sz, st, hd, okFw_of ho, r⟩
theorem tab34 : TabOk cfg (ctab [(54, valuesC), (55, piecesRC), (57, Ai.numC), (56, lowerC)]) := ctab_ok (ctab_cons c54 (ctab_cons c55 (ctab_cons c57 (ctab_cons c56 ctab_nil))))
theorem loop34 (F : Int) : ∀ (r pre : List (List UInt8)) (fl : Bool), (pre ++ r).length ≤ 64 * lim → (∀ p ∈ r, p ≠ [] ∧ p.length ≤ lim) →
    ToEnd cfg 34 (bodyOf Tryd.f34) (RetIs Tryd.prog Tryd.f34 (frA (resL F fl r) true)) [.code [0, 1, 0, 1, 1, 1, 1, 1, 1, 1, 1, 1, 1], .block 0, .code [1, 1, 1, 1, 1, 1, 1, 1, 1, 1, 1]] .normal
      [(2, true, .ptr 0 0), (9, true, .sl 1 (encS (pre ++ r)) none), (11, true, .bool fl), (12, true, .int .i64 F), (14, true, .int .i64 pre.length)] [.mem 30 [.int .i64 0, .int .i64 0]] := by
  intro r
  induction r with
  | nil =>
    intro pre fl hl hp
    refine t34b tab34 (ifP_intro (fun c => ?_) fun _ => ifP_intro (fun c => ?_) fun c => ?_)
    · simp [encS_len] at c
    · subst c; rfl
    · subst c; rfl
  | cons x r ih =>
    intro pre fl hl hp
    have hlen : pre.length + 1 ≤ 64 * lim := by simp at hl; omega
    obtain ⟨hx0, hx1⟩ := hp x (by simp)
    have hw : IntKind.wrap .i64 ((pre.length : Int) + 1) = ((pre.length + 1 : Nat) : Int) := by unfold lim at hlen; rw [wrap_in (by omega) (by omega)]; omega
    refine t34b tab34 (ifP_intro (fun _ => gAnd_intro (by rw [encS_len, inR_nat (by simp)]; rfl) ⟨x, getE_ss _ _ _, x, hx1, rfl, ifP_intro (fun b => ?_) fun b => ?_⟩) fun c => ?_)
    · have hb : numB x = false := by simpa using b
      unfold resL
      rw [List.all_cons, hb]; rfl
    · have hb : numB x = true := by simpa using b
      have e : resL F fl (x :: r) = resL F (fl || numQ x != F) r := by
        unfold resL
        rw [List.all_cons, hb, Bool.true_and, List.any_cons, Bool.or_assoc]
      rw [hw, e]
      have := ih (pre ++ [x]) (fl || numQ x != F) (by simpa using hl) (fun p h => hp p (by simp [h]))
      refine ifP_intro (fun c => ?_) fun c => ?_
      · subst c
        simpa using this
      · subst c
        have e2 : (if numB x = true then (numV x : Int) else 0) = numQ x := rfl
        rw [e2]
        simpa using this
    · simp [encS_len] at c; omega
theorem resL_byLen {p : List UInt8} {ps : List (List UInt8)} : resL (numQ p) false (p :: ps) = if (lenV (p :: ps)).2 = 0 then (1, (lenV (p :: ps)).1, 0) else (0, 0, (lenV (p :: ps)).2) := by
  unfold resL lenV
  by_cases h : (p :: ps).all numB = true
  · rw [if_pos h, if_pos h]
    have hp : numB p = true := by
      rw [List.all_cons, Bool.and_eq_true] at h
      exact h.1
    have e : ((false || (p :: ps).any fun q => numQ q != numQ p)) = !((p :: ps).all fun q => numV q == numV ((p :: ps).headD [])) := by
      rw [Bool.false_or, List.headD_cons, List.not_all_eq_any_not, Bool.eq_iff_iff, List.any_eq_true, List.any_eq_true]
      have key : ∀ q ∈ p :: ps, (numQ q != numQ p) = !(numV q == numV p) := fun q hq => by
        have hq' := List.all_eq_true.1 h q hq
        unfold numQ
        rw [if_pos hq', if_pos hp, Bool.eq_iff_iff]
        simp [Int.ofNat_inj]
      constructor
      · rintro ⟨q, hq, hv⟩; exact ⟨q, hq, by rw [← key q hq]; exact hv⟩
      · rintro ⟨q, hq, hv⟩; exact ⟨q, hq, by rw [key q hq]; exact hv⟩
    rw [e]
    cases (p :: ps).all fun q => numV q == numV ((p :: ps).headD []) with
    | true =>
      rw [if_neg (by simp), if_pos rfl, if_pos rfl]
      have : numQ p = ((numV ((p :: ps).headD []) : Nat) : Int) := by
        unfold numQ; rw [if_pos hp]; rfl
      rw [this]
    | false => rw [if_pos (by rfl), if_neg (by simp)]; rfl
  · rw [if_neg h, if_neg h]; rfl
theorem len_enc (p : List UInt8) (ps : List (List UInt8)) : (inR 0 ((p :: ps).length) && true && true) = true := by
  rw [inR_of (by omega) (by simp)]; rfl
theorem c34 : COk cfg 34 ofRC := by
  refine cok_pure pf34 fun vs h K ht => ?_
  obtain ⟨l, sz, ho, hs, rfl, hk⟩ := ht
  refine ⟨_, hk, t34a tab34 ⟨l, clS, sz, ho, hs, by decide, by rw [stripss_encFs]; rfl, l, teS, sz, ho, hs, by decide, by rw [stripss_encFs]; rfl, ?_⟩⟩
  have hA := okSs_values ho clS
  have hB := okSs_values ho teS
  have hf : frm l 0 = ofV (valuesOf l clS) (valuesOf l teS) 0 := rfl
  rw [hf]
  cases hA' : valuesOf l clS with
  | nil =>
    cases hB' : valuesOf l teS with
    | nil => simp only [hA', hB', encS_len, zero_nil, ifP_true, ofV_none]; rfl
    | cons b B =>
      simp only [hA', hB', encS_len, zero_nil, zero_cons, pos_nil, pos_cons, ifP_true, ifP_false, ofV_cod]
      refine ⟨l, teS, sz, ho, hs, by decide, by rw [stripss_encFs]; rfl, ?_⟩
      rw [hB'] at hB ⊢
      have hm := fun ps (h : pcs (b :: B) = some ps) => pcs_mem hB.2 h
      unfold pcsR byCod
      cases hq : pcs (b :: B) with
      | none => exact ifP_intro (fun _ => rfl) fun c => by simp at c
      | some ps =>
        match ps, hq with
        | [], _ => exact ifP_intro (fun _ => rfl) fun c => by simp at c
        | [p], hq =>
          refine ifP_intro (fun c => by simp at c) fun _ => ifP_intro (fun c => by simp at c) fun _ => gAnd_intro (by rfl) ⟨p, rfl, p, (hm _ hq p (by simp)).2, rfl, ?_⟩
          refine ifP_intro (fun c => ?_) fun c => ?_
          · have c' : ¬ lowS p = chS := fun h => by rw [h] at c; revert c; decide
            simp only [if_neg c']; rfl
          · have c' : lowS p = chS := (by simpa using c : lowS p = [99, 104, 117, 110, 107, 101, 100])
            simp only [if_pos c']; rfl
        | p :: q :: t, _ => exact ifP_intro (fun c => by simp at c) fun _ => ifP_intro (fun _ => rfl) fun c => by simp [bne] at c; omega
  | cons a A =>
    cases hB' : valuesOf l teS with
    | nil =>
      simp only [hA', hB', encS_len, zero_nil, zero_cons, pos_nil, pos_cons, ifP_true, ifP_false, ofV_len]
      refine ⟨l, clS, sz, ho, hs, by decide, by rw [stripss_encFs]; rfl, ?_⟩
      rw [hA'] at hA ⊢
      have hm := fun ps (h : pcs (a :: A) = some ps) => pcs_mem hA.2 h
      have hln := fun ps (h : pcs (a :: A) = some ps) => pcs_len h
      have hl := hA.1
      unfold pcsR byLen
      cases hq : pcs (a :: A) with
      | none => exact ifP_intro (fun _ => rfl) fun c => by simp at c
      | some ps =>
        match ps, hq with
        | [], _ => exact ifP_intro (fun _ => rfl) fun c => by simp at c
        | p :: ps, hq =>
          refine ifP_intro (fun c => by simp at c) fun _ => gAnd_intro (len_enc p ps) ⟨p, rfl, p, (hm _ hq p (by simp)).2, rfl, ?_⟩
          have := loop34 (numQ p) (p :: ps) [] false (by have := hln _ hq; simp at this hl ⊢; omega) (hm _ hq)
          rw [resL_byLen] at this
          exact this
    | cons b B => simp only [hA', hB', encS_len, zero_cons, pos_cons, ifP_true, ifP_false, ofV_both]; rfl
theorem tab16 : TabOk cfg (ctab [(34, ofRC)]) := ctab_ok (ctab_cons c34 ctab_nil)
theorem c16 : COk cfg 16 askFC := by
  refine cok_pure pf16 fun vs h K ht => ?_
  obtain ⟨l, sz, ho, hs, rfl, hk⟩ := ht
  refine ⟨_, hk, t16 tab16 ⟨l, sz, ho, hs, by rw [stripss_encFs], ?_⟩⟩
  unfold asksF
  refine ifP_intro (fun c => ?_) fun c => ifP_intro (fun d => ?_) fun d => ?_
  · have h0 : (frm l 0).2.2 ≠ 0 → (frm l 0).1 = 0 ∧ (frm l 0).2.1 = 0 := by
      unfold frm ofV byLen byCod
      intro h
      repeat' split at h
      all_goals first | exact absurd rfl h | (repeat' split) <;> simp_all
    obtain ⟨e1, e2⟩ := h0 (ne_of_bne c)
    rw [e2, if_neg (by omega), e1, e2]
  · simp only [gt_iff_lt, decide_eq_true_eq] at d
    rw [if_pos d]
  · simp only [gt_iff_lt, decide_eq_false_iff_not] at d
    rw [if_neg d, eq_of_bne c]
theorem frm_says (l : List Fld) : ((!((valuesOf l clS).isEmpty && (valuesOf l teS).isEmpty)) = true → frm l 3 = frm l 0) ∧ ((!((valuesOf l clS).isEmpty && (valuesOf l teS).isEmpty)) = false → frm l 3 = (3, 0, 0) ∧ frm l 0 = (0, 0, 0)) := by
  unfold frm
  cases valuesOf l clS <;> cases valuesOf l teS <;> simp [ofV]
theorem c19 : COk cfg 19 tellFC := by
  refine cok_pure pf19 fun vs h K ht => ?_
  obtain ⟨l, sz, st, hd, ho, hs, h0, h1, rfl, hk⟩ := ht
  refine ⟨_, hk, t19 tab16 ⟨l, sz, ho, hs, by rw [stripss_encFs], ?_⟩⟩
  obtain ⟨k1, k2⟩ := frm_says l
  have key : bareB st = ((decide (100 ≤ st) && decide (st ≤ 199)) || (st == 204) || (st == 304)) := by
    rw [Bool.eq_iff_iff]; simp [bareB]
  have h3 : (frm l 3).2.2 = (frm l 0).2.2 ∧ (frm l 3).2.1 = (frm l 0).2.1 := by
    cases hb : (!((valuesOf l clS).isEmpty && (valuesOf l teS).isEmpty)) with
    | true => rw [k1 hb]; exact ⟨rfl, rfl⟩
    | false => rw [(k2 hb).1, (k2 hb).2]; exact ⟨rfl, rfl⟩
  unfold tellsF
  rw [key, h3.1, h3.2]
  refine ifP_intro (fun c => by rw [if_pos (ne_of_bne c)]) fun c => ?_
  rw [if_neg (by simpa using eq_of_bne c)]
  have last : ∀ (hn : ¬ (hd = true ∨ ((decide (100 ≤ st) && decide (st ≤ 199)) || (st == 204) || (st == 304)) = true)),
      ifP (decide ((frm l 0).2.1 > 262144)) (AV.tup [.agg [.int .i64 0, .int .i64 0], .int .i64 3] = AV.tup [.agg [.int .i64 (if hd = true ∨ ((decide (100 ≤ st) && decide (st ≤ 199)) || (st == 204) || (st == 304)) = true then ((0 : Int), (0 : Int), (0 : Int)) else if 262144 < (frm l 0).2.1 then (0, 0, 3) else ((frm l 3).1, (frm l 0).2.1, 0)).1, .int .i64 (if hd = true ∨ ((decide (100 ≤ st) && decide (st ≤ 199)) || (st == 204) || (st == 304)) = true then ((0 : Int), (0 : Int), (0 : Int)) else if 262144 < (frm l 0).2.1 then (0, 0, 3) else ((frm l 3).1, (frm l 0).2.1, 0)).2.1], .int .i64 (if hd = true ∨ ((decide (100 ≤ st) && decide (st ≤ 199)) || (st == 204) || (st == 304)) = true then ((0 : Int), (0 : Int), (0 : Int)) else if 262144 < (frm l 0).2.1 then (0, 0, 3) else ((frm l 3).1, (frm l 0).2.1, 0)).2.2])
      (ifP (!!((valuesOf l clS).isEmpty && (valuesOf l teS).isEmpty)) (AV.tup [.agg [.int .i64 3, .int .i64 0], .int .i64 0] = AV.tup [.agg [.int .i64 (if hd = true ∨ ((decide (100 ≤ st) && decide (st ≤ 199)) || (st == 204) || (st == 304)) = true then ((0 : Int), (0 : Int), (0 : Int)) else if 262144 < (frm l 0).2.1 then (0, 0, 3) else ((frm l 3).1, (frm l 0).2.1, 0)).1, .int .i64 (if hd = true ∨ ((decide (100 ≤ st) && decide (st ≤ 199)) || (st == 204) || (st == 304)) = true then ((0 : Int), (0 : Int), (0 : Int)) else if 262144 < (frm l 0).2.1 then (0, 0, 3) else ((frm l 3).1, (frm l 0).2.1, 0)).2.1], .int .i64 (if hd = true ∨ ((decide (100 ≤ st) && decide (st ≤ 199)) || (st == 204) || (st == 304)) = true then ((0 : Int), (0 : Int), (0 : Int)) else if 262144 < (frm l 0).2.1 then (0, 0, 3) else ((frm l 3).1, (frm l 0).2.1, 0)).2.2])
        (AV.tup [.agg [.int .i64 (frm l 0).1, .int .i64 (frm l 0).2.1], .int .i64 0] = AV.tup [.agg [.int .i64 (if hd = true ∨ ((decide (100 ≤ st) && decide (st ≤ 199)) || (st == 204) || (st == 304)) = true then ((0 : Int), (0 : Int), (0 : Int)) else if 262144 < (frm l 0).2.1 then (0, 0, 3) else ((frm l 3).1, (frm l 0).2.1, 0)).1, .int .i64 (if hd = true ∨ ((decide (100 ≤ st) && decide (st ≤ 199)) || (st == 204) || (st == 304)) = true then ((0 : Int), (0 : Int), (0 : Int)) else if 262144 < (frm l 0).2.1 then (0, 0, 3) else ((frm l 3).1, (frm l 0).2.1, 0)).2.1], .int .i64 (if hd = true ∨ ((decide (100 ≤ st) && decide (st ≤ 199)) || (st == 204) || (st == 304)) = true then ((0 : Int), (0 : Int), (0 : Int)) else if 262144 < (frm l 0).2.1 then (0, 0, 3) else ((frm l 3).1, (frm l 0).2.1, 0)).2.2])) := fun hn => by
    rw [if_neg hn]
    refine ifP_intro (fun i => ?_) fun i => ?_
    · simp only [gt_iff_lt, decide_eq_true_eq] at i
      rw [if_pos i]
    · simp only [gt_iff_lt, decide_eq_false_iff_not] at i
      rw [if_neg i]
      refine ifP_intro (fun j => ?_) fun j => ?_
      · have hb : (!((valuesOf l clS).isEmpty && (valuesOf l teS).isEmpty)) = false := by
          cases hE : ((valuesOf l clS).isEmpty && (valuesOf l teS).isEmpty) with
          | true => rfl
          | false => rw [hE] at j; cases j
        rw [(k2 hb).1, (k2 hb).2]
      · have hb : (!((valuesOf l clS).isEmpty && (valuesOf l teS).isEmpty)) = true := by
          cases hE : ((valuesOf l clS).isEmpty && (valuesOf l teS).isEmpty) with
          | true => rw [hE] at j; cases j
          | false => rfl
        rw [k1 hb]
  refine ifP_intro (fun d => by rw [if_pos (.inl d)]) fun d => ifP_intro (fun e => ifP_intro (fun e2 => ?_) fun e2 => ifP_intro (fun f => ?_) fun f => ifP_intro (fun g => ?_) fun g => ?_) fun e => ifP_intro (fun f => ?_) fun f => ifP_intro (fun g => ?_) fun g => ?_
  · have e' : decide (100 ≤ st) = true := e
    rw [if_pos (.inr (by rw [e', e2]; rfl))]
  · rw [if_pos (.inr (by rw [f]; simp))]
  · rw [if_pos (.inr (by rw [g]; simp))]
  · exact last (by rw [d, e2, f, g]; simp)
  · rw [if_pos (.inr (by rw [f]; simp))]
  · rw [if_pos (.inr (by rw [g]; simp))]
  · have e' : decide (100 ≤ st) = false := e
    exact last (by rw [d, e', f, g]; simp)
end Go.Proofs.YtnncfdlpogjlkaaDoor
end
