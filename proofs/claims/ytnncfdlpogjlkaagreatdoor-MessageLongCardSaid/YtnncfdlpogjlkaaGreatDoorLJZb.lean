/-
  Runs of functions of lists of texts, printed by a home tool; each is the kernel's word.
  Lists of texts: small letters, blanks, values of a name: the functions keep to their contracts.
  Lists of texts: values of a name, numbers, the same fields, few of them: the functions keep to their contracts.
  Lists of texts: pieces between marks: the functions keep to their contracts.
  Where a body ends: pieces, lengths, what fields say: the functions keep to their contracts.
  Where a body ends: what fields say of requests and replies: the functions keep to their contracts.
-/
import Derived.Test.YtnncfdlpogjlkaaGreatDoorLCfg
import Derived.Test.YtnncfdlpogjlkaaGreatDoorLJZa
set_option linter.unusedVariables false
set_option linter.unusedSimpArgs false
set_option linter.unnecessarySimpa false
section
namespace Go.Proofs.YtnncfdlpogjlkaaGreatDoor
open Go.Ai Go
set_option maxRecDepth 100000
open Go.IntKind (wrap i64 u8)
open Go.Ai.AV (int str sl tup bool agg ptr)
open Go.Ai.Blk (mem grow)
open Go.Ai.Fm (code block loop)
open Go.Ai.XT (normal)
open List (length)
open Prod (fst snd)
open UInt8 (toNat)
open Tryz (prog f52 f105 f117 f120 f127 f130 f132 f133 f144)
theorem t144a {v : AV} {s : List UInt8} (hT : TabOk cfg (ctab [])) (H : gAnd (Nat.ble (length s) 140737488355328) (ToEnd cfg 144 (bodyOf f144) (RetIs prog f144 v) [code [0, 1, 0, 1, 1], block 0, code [1, 1, 1]] normal [(3, true, AV.osl 0 0 (length s) 1), (8, true, int i64 (↑(length s) : Int)), (9, true, int i64 0)] [mem 5 (List.map (fun (b : UInt8) ↦ int u8 (↑(toNat b) : Int)) s)])) : ToEnd cfg 144 (bodyOf f144) (RetIs prog f144 v) ([.code []]) .normal ([(0, true, .str s)]) ([]) := by
  exact unr_ok (pl := ⟨[[0, 1, 0, 1, 1]], [([0, 1, 0, 0, 1, 1, 0, 0, 1, 0, 1, 1], 3, [.int .u8]), ([0, 1, 0, 0, 1, 1, 0, 0, 1, 0, 1, 1], 9, [.int .u8]), ([0, 1, 1, 0, 0, 1, 1, 0, 0, 1, 0, 1, 1], 3, [.int .u8])]⟩) hT 100000 _ _ _ _ (unr_use H (by kernel_rfl))
theorem t144b {v : AV} {N : Nat} {n i : Int} {cs : List AV} (hT : TabOk cfg (ctab [])) (H : ifP (decide (i < n)) (gAnd (inR i N && true && true) (∃ (z1 : Int), List.take 1 (List.drop (0 + Int.toNat i * 1) cs) = [int u8 z1] ∧ ifP (decide (z1 ≥ 65)) (gAnd (inR i N && true && true) (∃ (z2 : Int), List.take 1 (List.drop (0 + Int.toNat i * 1) cs) = [int u8 z2] ∧ ifP (decide (z2 ≤ 90)) (gAnd (inR i N && true && true) (∃ (z3 : Int), List.take 1 (List.drop (0 + Int.toNat i * 1) cs) = [int u8 z3] ∧ gAnd (inR i N && true && true) (gAnd (Nat.ble (0 + Int.toNat i * 1 + 1) (length cs)) (ToEnd cfg 144 (bodyOf f144) (RetIs prog f144 v) [code [0, 1, 0, 1, 1], block 0, code [1, 1, 1]] normal [(3, true, AV.osl 0 0 N 1), (8, true, int i64 n), (9, true, int i64 (wrap i64 (i + 1)))] [mem 5 (splice cs (0 + Int.toNat i * 1) [int u8 (wrap u8 (z3 + 32))])])))) (ToEnd cfg 144 (bodyOf f144) (RetIs prog f144 v) [code [0, 1, 0, 1, 1], block 0, code [1, 1, 1]] normal [(3, true, AV.osl 0 0 N 1), (8, true, int i64 n), (9, true, int i64 (wrap i64 (i + 1)))] [mem 5 cs]))) (ToEnd cfg 144 (bodyOf f144) (RetIs prog f144 v) [code [0, 1, 0, 1, 1], block 0, code [1, 1, 1]] normal [(3, true, AV.osl 0 0 N 1), (8, true, int i64 n), (9, true, int i64 (wrap i64 (i + 1)))] [mem 5 cs]))) (gAnd (cellsB (List.take N (List.drop 0 cs))) (str (List.map cellV (List.take N (List.drop 0 cs))) = v))) : ToEnd cfg 144 (bodyOf f144) (RetIs prog f144 v) ([.code [0, 1, 0, 1, 1], .block 0, .code [1, 1, 1]]) .normal ([(3, true, .osl 0 0 N 1), (8, true, .int .i64 n), (9, true, .int .i64 i)]) ([.mem 5 cs]) := by
  exact ends_round (pl := ⟨[[0, 1, 0, 1, 1]], [([0, 1, 0, 0, 1, 1, 0, 0, 1, 0, 1, 1], 3, [.int .u8]), ([0, 1, 0, 0, 1, 1, 0, 0, 1, 0, 1, 1], 9, [.int .u8]), ([0, 1, 1, 0, 0, 1, 1, 0, 0, 1, 0, 1, 1], 3, [.int .u8])]⟩) hT 100000 (by kernel_rfl) (unr_use H (by kernel_rfl))
theorem t105 {v : AV} {s x : List UInt8} (hT : TabOk cfg (ctab [(144, lowerC)])) (H : ∃ (s1 : List UInt8), length s1 ≤ 10000000 ∧ [str s] = [str s1] ∧ ∃ (s2 : List UInt8), length s2 ≤ 10000000 ∧ [str x] = [str s2] ∧ bool (lowS s1 == lowS s2) = v) : ToEnd cfg 105 (bodyOf f105) (RetIs prog f105 v) ([.code []]) .normal ([(0, true, .str s), (1, true, .str x)]) ([]) := by
  exact unr_ok (pl := ⟨[], []⟩) hT 100000 _ _ _ _ (unr_use H (by kernel_rfl))
theorem t117 {v : AV} {s : List UInt8} (hT : TabOk cfg (ctab [(155, trimSC)])) (H : ∃ (s1 : List UInt8) (cs2 : List UInt8), length s1 ≤ 10000000 ∧ length cs2 ≤ 100 ∧ (List.all cs2 fun (b : UInt8) ↦ Nat.blt (toNat b) 128) = true ∧ [str s, str [32, 9]] = [str s1, str cs2] ∧ str (Lib.trimS s1 cs2) = v) : ToEnd cfg 117 (bodyOf f117) (RetIs prog f117 v) ([.code []]) .normal ([(0, true, .str s)]) ([]) := by
  exact unr_ok (pl := ⟨[], []⟩) hT 100000 _ _ _ _ (unr_use H (by kernel_rfl))
theorem t132a {v : AV} {s : List UInt8} (hT : TabOk cfg (ctab [])) (H : ToEnd cfg 132 (bodyOf f132) (RetIs prog f132 v) [code [0, 1, 0, 1, 1], block 0, code [1, 1, 1]] normal [(0, true, str s), (3, true, sl 1 [] (some 0)), (4, true, int i64 0)] [grow 0 1 5]) : ToEnd cfg 132 (bodyOf f132) (RetIs prog f132 v) ([.code []]) .normal ([(0, true, .str s)]) ([]) := by
  exact unr_ok (pl := ⟨[[0, 1, 0, 1, 1]], []⟩) hT 100000 _ _ _ _ (unr_use H (by kernel_rfl))
theorem t132b {v : AV}  {s0 : List UInt8} {e3 : List (List AV)} {i4 : Int} {g0 : Nat} (hT : TabOk cfg (ctab [])) (H : ifP (decide (i4 < (↑(length s0) : Int))) (gAnd (inR i4 (length s0)) (ifP (decide ((↑(toNat (List.getD s0 (Int.toNat i4) 0)) : Int) ≥ 65)) (ifP (decide ((↑(toNat (List.getD s0 (Int.toNat i4) 0)) : Int) ≤ 90)) (gAnd (tagOk [grow g0 1 5, grow 1 1 5] (length e3) 1 5 (some 0) && true && true && true && decide ((length e3 + 1) * 1 ≤ 140737488355328) && true && true) (gAnd (lowVss 1 (e3 ++ [[int u8 (wrap u8 ((↑(toNat (List.getD s0 (Int.toNat i4) 0)) : Int) + 32))]]) && true && true && true) (ToEnd cfg 132 (bodyOf f132) (RetIs prog f132 v) [code [0, 1, 0, 1, 1], block 0, code [1, 1, 1]] normal [(0, true, str s0), (3, true, sl 1 (e3 ++ [[int u8 (wrap u8 ((↑(toNat (List.getD s0 (Int.toNat i4) 0)) : Int) + 32))]]) (some 0)), (4, true, int i64 (wrap i64 (i4 + 1)))] [grow (length e3 + 1) 1 5]))) (gAnd (tagOk [grow g0 1 5, grow 1 1 5] (length e3) 1 5 (some 0) && true && true && true && decide ((length e3 + 1) * 1 ≤ 140737488355328) && true && true) (gAnd (lowVss 1 (e3 ++ [[int u8 (↑(toNat (List.getD s0 (Int.toNat i4) 0)) : Int)]]) && true && true && true) (ToEnd cfg 132 (bodyOf f132) (RetIs prog f132 v) [code [0, 1, 0, 1, 1], block 0, code [1, 1, 1]] normal [(0, true, str s0), (3, true, sl 1 (e3 ++ [[int u8 (↑(toNat (List.getD s0 (Int.toNat i4) 0)) : Int)]]) (some 0)), (4, true, int i64 (wrap i64 (i4 + 1)))] [grow (length e3 + 1) 1 5])))) (gAnd (tagOk [grow g0 1 5, grow 1 1 5] (length e3) 1 5 (some 0) && true && true && true && decide ((length e3 + 1) * 1 ≤ 140737488355328) && true && true) (gAnd (lowVss 1 (e3 ++ [[int u8 (↑(toNat (List.getD s0 (Int.toNat i4) 0)) : Int)]]) && true && true && true) (ToEnd cfg 132 (bodyOf f132) (RetIs prog f132 v) [code [0, 1, 0, 1, 1], block 0, code [1, 1, 1]] normal [(0, true, str s0), (3, true, sl 1 (e3 ++ [[int u8 (↑(toNat (List.getD s0 (Int.toNat i4) 0)) : Int)]]) (some 0)), (4, true, int i64 (wrap i64 (i4 + 1)))] [grow (length e3 + 1) 1 5]))))) (gAnd (rowsB e3) (str (List.map rowV e3) = v))) : ToEnd cfg 132 (bodyOf f132) (RetIs prog f132 v) ([.code [0, 1, 0, 1, 1], block 0, code [1, 1, 1]]) .normal ([(0, true, str s0), (3, true, sl 1 e3 (some 0)), (4, true, int i64 i4)]) ([grow g0 1 5]) := by
  exact ends_round (pl := ⟨[[0, 1, 0, 1, 1]], []⟩) hT 100000 (by kernel_rfl) (unr_use H (by kernel_rfl))
theorem t127a {v : AV} {s : List UInt8} (hT : TabOk cfg (ctab [])) (H : ToEnd cfg 127 (bodyOf f127) (RetIs prog f127 v) [code [0, 0, 1, 1], block 0, code [1, 1, 1]] normal [(0, true, str s), (3, true, int i64 0), (4, true, int i64 (↑(length s) : Int))] []) : ToEnd cfg 127 (bodyOf f127) (RetIs prog f127 v) ([.code []]) .normal ([(0, true, .str s)]) ([]) := by
  exact unr_ok (pl := ⟨[[0, 0, 1, 1], [0, 0, 1, 1, 1]], []⟩) hT 100000 _ _ _ _ (unr_use H (by kernel_rfl))
theorem t127b {v : AV}  {s0 : List UInt8} {i3 : Int} {i4 : Int} (hT : TabOk cfg (ctab [])) (H : ifP (decide (i3 < i4)) (gAnd (inR i3 (length s0)) (ifP ((↑(toNat (List.getD s0 (Int.toNat i3) 0)) : Int) == 32) (ToEnd cfg 127 (bodyOf f127) (RetIs prog f127 v) [code [0, 0, 1, 1], block 0, code [1, 1, 1]] normal [(0, true, str s0), (3, true, int i64 (wrap i64 (i3 + 1))), (4, true, int i64 i4)] []) (gAnd (inR i3 (length s0)) (ifP ((↑(toNat (List.getD s0 (Int.toNat i3) 0)) : Int) == 9) (ToEnd cfg 127 (bodyOf f127) (RetIs prog f127 v) [code [0, 0, 1, 1], block 0, code [1, 1, 1]] normal [(0, true, str s0), (3, true, int i64 (wrap i64 (i3 + 1))), (4, true, int i64 i4)] []) (ToEnd cfg 127 (bodyOf f127) (RetIs prog f127 v) [code [0, 0, 1, 1, 1], block 2, code [1, 1, 1, 1]] normal [(0, true, str s0), (3, true, int i64 i3), (4, true, int i64 i4)] []))))) (ToEnd cfg 127 (bodyOf f127) (RetIs prog f127 v) [code [0, 0, 1, 1, 1], block 2, code [1, 1, 1, 1]] normal [(0, true, str s0), (3, true, int i64 i3), (4, true, int i64 i4)] [])) : ToEnd cfg 127 (bodyOf f127) (RetIs prog f127 v) ([.code [0, 0, 1, 1], block 0, code [1, 1, 1]]) .normal ([(0, true, str s0), (3, true, int i64 i3), (4, true, int i64 i4)]) ([]) := by
  exact ends_round (pl := ⟨[[0, 0, 1, 1], [0, 0, 1, 1, 1]], []⟩) hT 100000 (by kernel_rfl) (unr_use H (by kernel_rfl))
theorem t127c {v : AV}  {s0 : List UInt8} {i3 : Int} {i4 : Int} (hT : TabOk cfg (ctab [])) (H : ifP (decide (i4 > i3)) (gAnd (inR (wrap i64 (i4 - 1)) (length s0)) (ifP ((↑(toNat (List.getD s0 (Int.toNat (wrap i64 (i4 - 1))) 0)) : Int) == 32) (ToEnd cfg 127 (bodyOf f127) (RetIs prog f127 v) [code [0, 0, 1, 1, 1], block 2, code [1, 1, 1, 1]] normal [(0, true, str s0), (3, true, int i64 i3), (4, true, int i64 (wrap i64 (i4 - 1)))] []) (gAnd (inR (wrap i64 (i4 - 1)) (length s0)) (ifP ((↑(toNat (List.getD s0 (Int.toNat (wrap i64 (i4 - 1))) 0)) : Int) == 9) (ToEnd cfg 127 (bodyOf f127) (RetIs prog f127 v) [code [0, 0, 1, 1, 1], block 2, code [1, 1, 1, 1]] normal [(0, true, str s0), (3, true, int i64 i3), (4, true, int i64 (wrap i64 (i4 - 1)))] []) (gAnd (cutOb (length s0) (some i3) (some i4)) (str (cutL s0 (some i3) (some i4)) = v)))))) (gAnd (cutOb (length s0) (some i3) (some i4)) (str (cutL s0 (some i3) (some i4)) = v))) : ToEnd cfg 127 (bodyOf f127) (RetIs prog f127 v) ([.code [0, 0, 1, 1, 1], block 2, code [1, 1, 1, 1]]) .normal ([(0, true, str s0), (3, true, int i64 i3), (4, true, int i64 i4)]) ([]) := by
  exact ends_round (pl := ⟨[[0, 0, 1, 1], [0, 0, 1, 1, 1]], []⟩) hT 100000 (by kernel_rfl) (unr_use H (by kernel_rfl))
theorem t130a {v : AV} {e : List (List AV)} {sz : Nat} {nm : List UInt8} (hT : TabOk cfg (ctab [(132, lowerC)])) (H : ToEnd cfg 130 (bodyOf f130) (RetIs prog f130 v) [code [0, 1, 0, 1, 1], block 0, code [1, 1, 1]] normal [(0, true, sl sz e none), (1, true, str nm), (5, true, sl 1 [] (some 1)), (6, true, int i64 0)] [grow 0 1 9, grow 0 1 9]) : ToEnd cfg 130 (bodyOf f130) (RetIs prog f130 v) ([.code []]) .normal ([(0, true, .sl sz e none), (1, true, .str nm)]) ([]) := by
  exact unr_ok (pl := ⟨[[0, 1, 0, 1, 1]], [([0, 0, 0, 1, 0, 0, 1, 0, 1, 1], 2, [.str, .str]), ([0, 1, 0, 0, 1, 0, 0, 1, 0, 1, 1], 3, [.str, .str])]⟩) hT 100000 _ _ _ _ (unr_use H (by kernel_rfl))
theorem t130b {v : AV} {e : List (List AV)} {sz : Nat}  {s1 : List UInt8} {e5 : List (List AV)} {i6 : Int} {g0 : Nat} {g1 : Nat} (hT : TabOk cfg (ctab [(132, lowerC)])) (H : ifP (decide (i6 < (↑(length e) : Int))) (gAnd (inR i6 (length e) && Nat.beq sz 2 && Nat.ble 1 sz) (∃ (s1_1 : List UInt8) (s2 : List UInt8), getE e i6 = [str s1_1, str s2] ∧ ∃ (s3 : List UInt8), length s3 ≤ 10000000 ∧ [str s1_1] = [str s3] ∧ ∃ (s4 : List UInt8), length s4 ≤ 10000000 ∧ [str s1] = [str s4] ∧ ifP (lowS s3 == lowS s4) (gAnd (inR i6 (length e) && Nat.beq sz 2 && Nat.ble 1 sz) (∃ (s5 : List UInt8) (s6 : List UInt8), getE e i6 = [str s5, str s6] ∧ gAnd (tagOk [grow g0 1 9, grow g1 1 9, grow 1 1 9] (length e5) 1 9 (some 1) && true && true && true && decide ((length e5 + 1) * 16 ≤ 140737488355328) && true && true) (gAnd (lowVss 2 e && true && (lowVss 2 (e5 ++ [[str s6]]) && true && true) && true) (ToEnd cfg 130 (bodyOf f130) (RetIs prog f130 v) [code [0, 1, 0, 1, 1], block 0, code [1, 1, 1]] normal [(0, true, sl sz e none), (1, true, str s1), (5, true, sl 1 (e5 ++ [[str s6]]) (some 1)), (6, true, int i64 (wrap i64 (i6 + 1)))] [grow g0 1 9, grow (length e5 + 1) 1 9])))) (gAnd (lowVss 2 e && true && (lowVss 2 e5 && true && true) && true) (ToEnd cfg 130 (bodyOf f130) (RetIs prog f130 v) [code [0, 1, 0, 1, 1], block 0, code [1, 1, 1]] normal [(0, true, sl sz e none), (1, true, str s1), (5, true, sl 1 e5 (some 1)), (6, true, int i64 (wrap i64 (i6 + 1)))] [grow g0 1 9, grow g1 1 9])))) (sl 1 (stripss 0 [grow g0 1 9, grow g1 1 9] e5) none = v)) : ToEnd cfg 130 (bodyOf f130) (RetIs prog f130 v) ([.code [0, 1, 0, 1, 1], block 0, code [1, 1, 1]]) .normal ([(0, true, sl sz e none), (1, true, str s1), (5, true, sl 1 e5 (some 1)), (6, true, int i64 i6)]) ([grow g0 1 9, grow g1 1 9]) := by
  exact ends_round (pl := ⟨[[0, 1, 0, 1, 1]], [([0, 0, 0, 1, 0, 0, 1, 0, 1, 1], 2, [.str, .str]), ([0, 1, 0, 0, 1, 0, 0, 1, 0, 1, 1], 3, [.str, .str])]⟩) hT 100000 (by kernel_rfl) (unr_use H (by kernel_rfl))
theorem t120a {v : AV} {e : List (List AV)} {sz : Nat} {nm : List UInt8} (hT : TabOk cfg (ctab [(105, likeC)])) (H : ToEnd cfg 120 (bodyOf f120) (RetIs prog f120 v) [code [0, 1, 0, 1], block 0, code [1, 1]] normal [(1, true, str nm), (4, true, sl 1 [] (some 0)), (7, true, sl sz e none), (8, true, int i64 (↑(length e) : Int)), (9, true, int i64 0)] [grow 0 1 9]) : ToEnd cfg 120 (bodyOf f120) (RetIs prog f120 v) ([.code []]) .normal ([(0, true, .sl sz e none), (1, true, .str nm)]) ([]) := by
  exact unr_ok (pl := ⟨[[0, 1, 0, 1]], [([0, 0, 0, 1, 1, 0, 0, 1, 0, 1], 0, [.str, .str])]⟩) hT 100000 _ _ _ _ (unr_use H (by kernel_rfl))
theorem t120b {v : AV} {e : List (List AV)} {sz : Nat}  {s1 : List UInt8} {e4 : List (List AV)} {i8 : Int} {i9 : Int} {g0 : Nat} (hT : TabOk cfg (ctab [(105, likeC)])) (H : ifP (decide (i9 < i8)) (gAnd (inR i9 (length e) && Nat.beq sz 2 && Nat.ble 1 sz) (∃ (s1_1 : List UInt8) (s2 : List UInt8), getE e i9 = [str s1_1, str s2] ∧ ∃ (a3 : List UInt8) (b4 : List UInt8), length a3 ≤ 10000000 ∧ length b4 ≤ 10000000 ∧ [str s1_1, str s1] = [str a3, str b4] ∧ ifP (lowS a3 == lowS b4) (gAnd (tagOk [grow g0 1 9, mem 63 [str s1_1, str s2], grow 1 1 9] (length e4) 1 9 (some 0) && true && true && true && decide ((length e4 + 1) * 16 ≤ 140737488355328) && true && true) (gAnd (lowVss 1 (e4 ++ [[str s2]]) && true && (lowVss 1 e && true && true) && true) (ToEnd cfg 120 (bodyOf f120) (RetIs prog f120 v) [code [0, 1, 0, 1], block 0, code [1, 1]] normal [(1, true, str s1), (4, true, sl 1 (e4 ++ [[str s2]]) (some 0)), (7, true, sl sz e none), (8, true, int i64 i8), (9, true, int i64 (wrap i64 (i9 + 1)))] [grow (length e4 + 1) 1 9]))) (gAnd (lowVss 1 e4 && true && (lowVss 1 e && true && true) && true) (ToEnd cfg 120 (bodyOf f120) (RetIs prog f120 v) [code [0, 1, 0, 1], block 0, code [1, 1]] normal [(1, true, str s1), (4, true, sl 1 e4 (some 0)), (7, true, sl sz e none), (8, true, int i64 i8), (9, true, int i64 (wrap i64 (i9 + 1)))] [grow g0 1 9])))) (sl 1 (stripss 0 [grow g0 1 9] e4) none = v)) : ToEnd cfg 120 (bodyOf f120) (RetIs prog f120 v) ([.code [0, 1, 0, 1], block 0, code [1, 1]]) .normal ([(1, true, str s1), (4, true, sl 1 e4 (some 0)), (7, true, sl sz e none), (8, true, int i64 i8), (9, true, int i64 i9)]) ([grow g0 1 9]) := by
  exact ends_round (pl := ⟨[[0, 1, 0, 1]], [([0, 0, 0, 1, 1, 0, 0, 1, 0, 1], 0, [.str, .str])]⟩) hT 100000 (by kernel_rfl) (unr_use H (by kernel_rfl))
theorem t133a {v : AV} {s : List UInt8} (hT : TabOk cfg (ctab [])) (H : ifP ((↑(length s) : Int) == 0) (tup [int i64 0, bool false] = v) (ifP (decide ((↑(length s) : Int) > 18)) (tup [int i64 0, bool false] = v) (ToEnd cfg 133 (bodyOf f133) (RetIs prog f133 v) [code [0, 1, 0, 1, 1, 1], block 0, code [1, 1, 1, 1]] normal [(0, true, str s), (4, true, int i64 0), (5, true, int i64 0)] []))) : ToEnd cfg 133 (bodyOf f133) (RetIs prog f133 v) ([.code []]) .normal ([(0, true, .str s)]) ([]) := by
  exact unr_ok (pl := ⟨[[0, 1, 0, 1, 1, 1]], []⟩) hT 100000 _ _ _ _ (unr_use H (by kernel_rfl))
theorem t133b {v : AV}  {s0 : List UInt8} {i4 : Int} {i5 : Int} (hT : TabOk cfg (ctab [])) (H : ifP (decide (i5 < (↑(length s0) : Int))) (gAnd (inR i5 (length s0)) (ifP (decide ((↑(toNat (List.getD s0 (Int.toNat i5) 0)) : Int) < 48)) (tup [int i64 0, bool false] = v) (gAnd (inR i5 (length s0)) (ifP (decide ((↑(toNat (List.getD s0 (Int.toNat i5) 0)) : Int) > 57)) (tup [int i64 0, bool false] = v) (gAnd (inR i5 (length s0)) (ToEnd cfg 133 (bodyOf f133) (RetIs prog f133 v) [code [0, 1, 0, 1, 1, 1], block 0, code [1, 1, 1, 1]] normal [(0, true, str s0), (4, true, int i64 (wrap i64 (wrap i64 (10 * i4) + wrap i64 (wrap u8 ((↑(toNat (List.getD s0 (Int.toNat i5) 0)) : Int) - 48))))), (5, true, int i64 (wrap i64 (i5 + 1)))] [])))))) (tup [int i64 i4, bool true] = v)) : ToEnd cfg 133 (bodyOf f133) (RetIs prog f133 v) ([.code [0, 1, 0, 1, 1, 1], block 0, code [1, 1, 1, 1]]) .normal ([(0, true, str s0), (4, true, int i64 i4), (5, true, int i64 i5)]) ([]) := by
  exact ends_round (pl := ⟨[[0, 1, 0, 1, 1, 1]], []⟩) hT 100000 (by kernel_rfl) (unr_use H (by kernel_rfl))
theorem t52a {v : AV} {e d : List (List AV)} {sz sy : Nat} (hT : TabOk cfg (ctab [])) (H : ifP ((↑(length e) : Int) != (↑(length d) : Int)) (bool false = v) (ToEnd cfg 52 (bodyOf f52) (RetIs prog f52 v) [code [0, 1, 0, 1, 1], block 0, code [1, 1, 1]] normal [(0, true, sl sz e none), (1, true, sl sy d none), (5, true, int i64 0)] [])) : ToEnd cfg 52 (bodyOf f52) (RetIs prog f52 v) ([.code []]) .normal ([(0, true, .sl sz e none), (1, true, .sl sy d none)]) ([]) := by
  exact unr_ok (pl := ⟨[[0, 1, 0, 1, 1]], [([0, 0, 0, 1, 0, 0, 1, 0, 1, 1], 2, [.str, .str]), ([0, 0, 0, 1, 0, 0, 1, 0, 1, 1], 6, [.str, .str])]⟩) hT 100000 _ _ _ _ (unr_use H (by kernel_rfl))
theorem t52b {v : AV} {e d : List (List AV)} {sz sy : Nat} {i5 : Int} (hT : TabOk cfg (ctab [])) (H : ifP (decide (i5 < (↑(length e) : Int))) (gAnd (inR i5 (length e) && Nat.beq sz 2 && Nat.ble 1 sz) (∃ (s1 : List UInt8) (s2 : List UInt8), getE e i5 = [str s1, str s2] ∧ gAnd (inR i5 (length d) && Nat.beq sy 2 && Nat.ble 1 sy) (∃ (s3 : List UInt8) (s4 : List UInt8), getE d i5 = [str s3, str s4] ∧ ifP (!(s1 == s3 && (s2 == s4 && true))) (bool false = v) (ToEnd cfg 52 (bodyOf f52) (RetIs prog f52 v) [code [0, 1, 0, 1, 1], block 0, code [1, 1, 1]] normal [(0, true, sl sz e none), (1, true, sl sy d none), (5, true, int i64 (wrap i64 (i5 + 1)))] [])))) (bool true = v)) : ToEnd cfg 52 (bodyOf f52) (RetIs prog f52 v) ([.code [0, 1, 0, 1, 1], block 0, code [1, 1, 1]]) .normal ([(0, true, sl sz e none), (1, true, sl sy d none), (5, true, int i64 i5)]) ([]) := by
  exact ends_round (pl := ⟨[[0, 1, 0, 1, 1]], [([0, 0, 0, 1, 0, 0, 1, 0, 1, 1], 2, [.str, .str]), ([0, 0, 0, 1, 0, 0, 1, 0, 1, 1], 6, [.str, .str])]⟩) hT 100000 (by kernel_rfl) (unr_use H (by kernel_rfl))
end Go.Proofs.YtnncfdlpogjlkaaGreatDoor
end
section
namespace Go.Proofs.YtnncfdlpogjlkaaGreatDoor
open Go.Ai Go
set_option maxRecDepth 100000
theorem pf144 : pureFn cfg 144 Tryz.f144 := (by refine ⟨?_, ?_, ?_, ?_, ?_, ?_⟩ <;> kernel_rfl)
theorem pf105 : pureFn cfg 105 Tryz.f105 := (by refine ⟨?_, ?_, ?_, ?_, ?_, ?_⟩ <;> kernel_rfl)
theorem pf117 : pureFn cfg 117 Tryz.f117 := (by refine ⟨?_, ?_, ?_, ?_, ?_, ?_⟩ <;> kernel_rfl)
theorem pf132 : pureFn cfg 132 Tryz.f132 := (by refine ⟨?_, ?_, ?_, ?_, ?_, ?_⟩ <;> kernel_rfl)
theorem pf127 : pureFn cfg 127 Tryz.f127 := (by refine ⟨?_, ?_, ?_, ?_, ?_, ?_⟩ <;> kernel_rfl)
theorem pf130 : pureFn cfg 130 Tryz.f130 := (by refine ⟨?_, ?_, ?_, ?_, ?_, ?_⟩ <;> kernel_rfl)
theorem pf120 : pureFn cfg 120 Tryz.f120 := (by refine ⟨?_, ?_, ?_, ?_, ?_, ?_⟩ <;> kernel_rfl)
theorem pf133 : pureFn cfg 133 Tryz.f133 := (by refine ⟨?_, ?_, ?_, ?_, ?_, ?_⟩ <;> kernel_rfl)
theorem pf52 : pureFn cfg 52 Tryz.f52 := (by refine ⟨?_, ?_, ?_, ?_, ?_, ?_⟩ <;> kernel_rfl)
theorem lowC_big {c : UInt8} (h : 65 ≤ c.toNat ∧ c.toNat ≤ 90) : IntKind.wrap .u8 ((c.toNat : Int) + 32) = ((lowC c).toNat : Nat) := by
  rw [lowC_toNat, if_pos h, wrap_u8 (by omega) (by omega)]; omega
theorem lowC_other {c : UInt8} (h : ¬ (65 ≤ c.toNat ∧ c.toNat ≤ 90)) : lowC c = c := by unfold lowC; rw [if_neg h]
theorem loop144 : ∀ (r pre : List UInt8), (pre ++ r).length ≤ lim →
    ToEnd cfg 144 (bodyOf Tryz.f144) (RetIs Tryz.prog Tryz.f144 (.str (lowS (pre ++ r)))) [.code [0, 1, 0, 1, 1], .block 0, .code [1, 1, 1]] .normal
      [(3, true, .osl 0 0 (pre ++ r).length 1), (8, true, .int .i64 ((pre ++ r).length : Nat)), (9, true, .int .i64 pre.length)] [.mem 5 (bc (lowS pre ++ r))] := by
  intro r
  induction r with
  | nil =>
    intro pre hl
    refine t144b (ctab_ok ctab_nil) (ifP_intro (fun a => ?_) fun _ => ?_)
    · simp at a
    · have e : List.take (pre ++ []).length (List.drop 0 (bc (lowS pre ++ []))) = bc (lowS (pre ++ [])) := by
        rw [List.drop_zero, List.append_nil, List.append_nil, List.take_of_length_le (by rw [bc_len, lowS_len]; exact Nat.le_refl _)]
      rw [e]
      exact gAnd_intro (cellsB_bc _) (by rw [cellV_bc])
  | cons x r ih =>
    intro pre hl
    have hlen : pre.length ≤ lim := by simp at hl; omega
    have hin : (inR (pre.length : Int) (pre ++ x :: r).length && true && true) = true := by rw [inR_nat (by simp)]; rfl
    have hi : 0 + Int.toNat (pre.length : Int) * 1 = (bc (lowS pre)).length := by rw [bc_len, lowS_len]; simp
    have hcs : bc (lowS pre ++ x :: r) = bc (lowS pre) ++ AV.int .u8 ((UInt8.toNat x : Nat) : Int) :: bc r := by rw [bc_app]; rfl
    have hx := x.toNat_lt
    have next : lowC x = x → ToEnd cfg 144 (bodyOf Tryz.f144) (RetIs Tryz.prog Tryz.f144 (.str (lowS (pre ++ x :: r)))) [.code [0, 1, 0, 1, 1], .block 0, .code [1, 1, 1]] .normal
      [(3, true, .osl 0 0 (pre ++ x :: r).length 1), (8, true, .int .i64 ((pre ++ x :: r).length : Nat)), (9, true, .int .i64 (IntKind.wrap .i64 ((pre.length : Int) + 1)))] [.mem 5 (bc (lowS pre ++ x :: r))] := fun hc => by
      rw [wrap_n hlen]
      have := ih (pre ++ [x]) (by simpa using hl)
      simpa [lowS, hc] using this
    refine t144b (ctab_ok ctab_nil) (ifP_intro (fun _ => gAnd_intro hin ⟨_, by rw [hcs]; exact take_at hi, ifP_intro (fun b => gAnd_intro hin ⟨_, by rw [hcs]; exact take_at hi, ifP_intro (fun c => gAnd_intro hin ⟨_, by rw [hcs]; exact take_at hi, gAnd_intro hin (gAnd_intro ?_ ?_)⟩) fun c => ?_⟩) fun b => ?_⟩) fun a => ?_)
    · rw [hi, hcs]; simp
    · rw [hcs, splice_at hi, wrap_n hlen]; simp only [ge_iff_le, decide_eq_true_eq] at b c
      rw [lowC_big (by omega)]
      have := ih (pre ++ [x]) (by simpa using hl)
      have e : bc (lowS (pre ++ [x]) ++ r) = bc (lowS pre) ++ AV.int .u8 ((UInt8.toNat (lowC x) : Nat) : Int) :: bc r := by
        have : lowS (pre ++ [x]) ++ r = lowS pre ++ lowC x :: r := by simp [lowS]
        rw [this, bc_app]; rfl
      rw [e] at this; simpa using this
    · simp only [ge_iff_le, decide_eq_true_eq, decide_eq_false_iff_not] at b c
      exact next (lowC_other (by omega))
    · simp only [ge_iff_le, decide_eq_true_eq, decide_eq_false_iff_not] at b
      exact next (lowC_other (by omega))
    · simp at a; omega
theorem c144 : COk cfg 144 lowerC := by
  refine cok_pure pf144 fun vs h K ht => ?_
  obtain ⟨s, hl, rfl, hk⟩ := ht
  refine ⟨_, hk, t144a (ctab_ok ctab_nil) (gAnd_intro (by unfold lim at hl; exact Nat.ble_eq_true_of_le (by omega)) ?_)⟩
  exact loop144 s [] hl
theorem c105 : COk cfg 105 likeC := by
  refine cok_pure pf105 fun vs h K ht => ?_
  obtain ⟨a, b, ha, hb, rfl, hk⟩ := ht; exact ⟨_, hk, t105 (ctab_ok (ctab_cons c144 ctab_nil)) ⟨a, ha, rfl, b, hb, rfl, rfl⟩⟩
theorem c155 : COk cfg 155 trimSC := by
  refine cok_prim (by kernel_rfl) (by kernel_rfl) (by kernel_rfl : cfg.prim 155 = some pTrim) (by kernel_rfl) fun vs h K ht => ?_
  obtain ⟨s, cs, h1, h2, h3, rfl, hk⟩ := ht; refine ⟨.str (Lib.trimS s cs), hk, ?_⟩
  have e : (Nat.ble s.length 9223372036854775807 && Nat.blt cs.length 4294967281 && asciiB cs) = true := by
    unfold asciiB
    have e2 : Nat.blt cs.length 4294967281 = true := Nat.ble_eq_true_of_le (by omega)
    rw [h3, Nat.ble_eq_true_of_le (by unfold lim at h1; omega), e2]; rfl
  simp only [pTrim, e]
theorem c117 : COk cfg 117 trimC := by
  refine cok_pure pf117 fun vs h K ht => ?_
  obtain ⟨s, hl, rfl, hk⟩ := ht
  exact ⟨_, hk, t117 (ctab_ok (ctab_cons c155 ctab_nil)) ⟨s, _, hl, (by decide), (by decide), rfl, rfl⟩⟩
theorem loop132 : ∀ (r pre : List UInt8), (pre ++ r).length ≤ lim →
    ToEnd cfg 132 (bodyOf Tryz.f132) (RetIs Tryz.prog Tryz.f132 (.str (lowS (pre ++ r)))) [.code [0, 1, 0, 1, 1], .block 0, .code [1, 1, 1]] .normal
      [(0, true, .str (pre ++ r)), (3, true, .sl 1 (rb (lowS pre)) (some 0)), (4, true, .int .i64 pre.length)] [.grow pre.length 1 5] := by
  intro r
  induction r with
  | nil =>
    intro pre hl
    refine t132b (ctab_ok ctab_nil) (ifP_intro (fun a => ?_) fun _ => ?_)
    · simp at a
    · exact gAnd_intro (rowsB_rb _) (by rw [rowV_rb, List.append_nil])
  | cons x r ih =>
    intro pre hl
    have hlen : pre.length ≤ lim := by simp at hl; omega
    have hx := x.toNat_lt
    have hg : (tagOk [Blk.grow pre.length 1 5, Blk.grow 1 1 5] (rb (lowS pre)).length 1 5 (some 0) && true && true && true && decide (((rb (lowS pre)).length + 1) * 1 ≤ 140737488355328) && true && true) = true := by
      rw [rb_len, lowS_len, tag_ok rfl, decide_eq_true (by unfold lim at hlen; omega)]; rfl
    have next : ∀ z : Int, z = ((lowC x).toNat : Nat) → gAnd (tagOk [Blk.grow pre.length 1 5, Blk.grow 1 1 5] (rb (lowS pre)).length 1 5 (some 0) && true && true && true && decide (((rb (lowS pre)).length + 1) * 1 ≤ 140737488355328) && true && true)
       (gAnd (lowVss 1 (rb (lowS pre) ++ [[AV.int IntKind.u8 z]]) && true && true && true) (ToEnd cfg 132 (bodyOf Tryz.f132) (RetIs Tryz.prog Tryz.f132 (.str (lowS (pre ++ x :: r)))) [.code [0, 1, 0, 1, 1], .block 0, .code [1, 1, 1]] .normal
      [(0, true, .str (pre ++ x :: r)), (3, true, .sl 1 (rb (lowS pre) ++ [[AV.int IntKind.u8 z]]) (some 0)), (4, true, .int .i64 (IntKind.wrap .i64 ((pre.length : Int) + 1)))] [.grow ((rb (lowS pre)).length + 1) 1 5])) := fun z hz => by
      have e : rb (lowS pre) ++ [[AV.int IntKind.u8 z]] = rb (lowS (pre ++ [x])) := by
        subst hz
        rw [show lowS (pre ++ [x]) = lowS pre ++ [lowC x] by simp [lowS], rb_app]; rfl
      refine gAnd_intro hg (gAnd_intro (by rw [e, low_rb]; rfl) ?_)
      rw [e, wrap_n hlen, rb_len, lowS_len]
      have := ih (pre ++ [x]) (by simpa using hl)
      simpa using this
    refine t132b (ctab_ok ctab_nil) (ifP_intro (fun _ => gAnd_intro (inR_nat (by simp)) ?_) fun a => ?_)
    · rw [at_pre]
      refine ifP_intro (fun b => ifP_intro (fun c => ?_) fun c => ?_) fun b => ?_
      · simp only [ge_iff_le, decide_eq_true_eq] at b c
        exact next _ (lowC_big (by omega))
      · simp only [ge_iff_le, decide_eq_true_eq, decide_eq_false_iff_not] at b c
        exact next _ (by rw [lowC_other (by omega)])
      · simp only [ge_iff_le, decide_eq_true_eq, decide_eq_false_iff_not] at b
        exact next _ (by rw [lowC_other (by omega)])
    · simp at a; omega
theorem c132 : COk cfg 132 lowerC := by
  refine cok_pure pf132 fun vs h K ht => ?_
  obtain ⟨s, hl, rfl, hk⟩ := ht; exact ⟨_, hk, t132a (ctab_ok ctab_nil) (loop132 s [] hl)⟩
theorem bl_of {c : UInt8} (h : ((c.toNat : Int) == 32) = true ∨ ((c.toNat : Int) == 9) = true) : isBl c = true := by
  unfold isBl; rw [Bool.or_eq_true, beq_iff_eq, beq_iff_eq]
  rcases h with h | h
  · left; exact UInt8.toNat_inj.1 (by have : (c.toNat : Int) = 32 := by simpa using h
                                      show c.toNat = 32; omega)
  · right; exact UInt8.toNat_inj.1 (by have : (c.toNat : Int) = 9 := by simpa using h
                                       show c.toNat = 9; omega)
theorem not_bl {c : UInt8} (h : ((c.toNat : Int) == 32) = false) (h' : ((c.toNat : Int) == 9) = false) : isBl c = false := by
  unfold isBl; rw [Bool.or_eq_false_iff]; constructor
  · rw [beq_eq_false_iff_ne]; rintro rfl; simp at h
  · rw [beq_eq_false_iff_ne]; rintro rfl; simp at h'
theorem loop127c {s : List UInt8} (hl : s.length ≤ lim) {a : Nat} (h1 : ∀ (j : Nat) x, j < a → s[j]? = some x → isBl x = true) (h0 : a = s.length ∨ ∀ x, s[a]? = some x → isBl x = false) : ∀ (k : Nat), a + k ≤ s.length → (∀ (j : Nat) x, a + k ≤ j → s[j]? = some x → isBl x = true) →
    ToEnd cfg 127 (bodyOf Tryz.f127) (RetIs Tryz.prog Tryz.f127 (.str (trB s))) [.code [0, 0, 1, 1, 1], .block 2, .code [1, 1, 1, 1]] .normal
      [(0, true, .str s), (3, true, .int .i64 a), (4, true, .int .i64 ((a + k : Nat) : Int))] [] := by
  have fin : ∀ b : Nat, a ≤ b → b ≤ s.length → (∀ (j : Nat) x, b ≤ j → s[j]? = some x → isBl x = true) → (a = b ∨ ∀ x, s[b - 1]? = some x → isBl x = false) →
      gAnd (cutOb s.length (some (a : Int)) (some (b : Int))) (AV.str (cutL s (some (a : Int)) (some (b : Int))) = AV.str (trB s)) := fun b hab hb h2 h3 => by
    refine gAnd_intro (by simp [cutOb]; omega) ?_
    rw [trB_cut hab hb h1 h2 (by
      rcases h3 with h3 | h3
      · exact .inl h3
      · rcases h0 with h0 | h0
        · left; omega
        · exact .inr ⟨h0, h3⟩)]
    simp [cutL]
  intro k
  induction k with
  | zero =>
    intro hk h2
    refine t127c (ctab_ok ctab_nil) (ifP_intro (fun c => ?_) fun _ => ?_)
    · simp at c
    · exact fin a (by omega) (by omega) h2 (.inl rfl)
  | succ k ih =>
    intro hk h2
    have e : IntKind.wrap .i64 (((a + (k + 1) : Nat) : Int) - 1) = ((a + k : Nat) : Int) := by unfold lim at hl; rw [wrap_in (by omega) (by omega)]; omega
    obtain ⟨x, hx⟩ : ∃ x, s[a + k]? = some x := ⟨_, List.getElem?_eq_getElem (by omega)⟩
    have hg : List.getD s (Int.toNat ((a + k : Nat) : Int)) 0 = x := by rw [Int.toNat_natCast, List.getD_eq_getElem?_getD, hx]; rfl
    have step : isBl x = true → ∀ (j : Nat) y, a + k ≤ j → s[j]? = some y → isBl y = true := fun hb j y hj hy => by
      rcases Nat.eq_or_lt_of_le hj with rfl | h
      · rw [hx] at hy; injection hy with hy; subst hy; exact hb
      · exact h2 j y (by omega) hy
    refine t127c (ctab_ok ctab_nil) (ifP_intro (fun c => ?_) fun c => ?_)
    · rw [e, hg]
      refine gAnd_intro (inR_nat (by omega)) (ifP_intro (fun b => ?_) fun b => gAnd_intro (inR_nat (by omega)) (ifP_intro (fun d => ?_) fun d => ?_))
      · exact ih (by omega) (step (bl_of (.inl b)))
      · exact ih (by omega) (step (bl_of (.inr d)))
      · exact fin (a + (k + 1)) (by omega) hk h2 (.inr fun y hy => by
          rw [show a + (k + 1) - 1 = a + k by omega, hx] at hy
          injection hy with hy
          subst hy
          exact not_bl b d)
    · simp at c; omega
theorem loop127b : ∀ (r pre : List UInt8), (pre ++ r).length ≤ lim → (∀ x ∈ pre, isBl x = true) →
    ToEnd cfg 127 (bodyOf Tryz.f127) (RetIs Tryz.prog Tryz.f127 (.str (trB (pre ++ r)))) [.code [0, 0, 1, 1], .block 0, .code [1, 1, 1]] .normal
      [(0, true, .str (pre ++ r)), (3, true, .int .i64 pre.length), (4, true, .int .i64 ((pre ++ r).length : Nat))] [] := by
  intro r
  have hpre : ∀ (pre r : List UInt8), (∀ x ∈ pre, isBl x = true) → ∀ (j : Nat) x, j < pre.length → (pre ++ r)[j]? = some x → isBl x = true := fun pre r h j x hj hx => by
    rw [List.getElem?_append_left hj] at hx; exact h x (List.mem_of_getElem? hx)
  induction r with
  | nil =>
    intro pre hl hb
    refine t127b (ctab_ok ctab_nil) (ifP_intro (fun c => ?_) fun _ => ?_)
    · simp at c
    · have := loop127c hl (a := pre.length) (hpre pre [] hb) (.inl (by simp)) 0 (by simp) (fun j x hj hx => by rw [List.getElem?_eq_none (by simpa using hj)] at hx; cases hx)
      simpa using this
  | cons x r ih =>
    intro pre hl hb
    have hlen : pre.length ≤ lim := by simp at hl; omega
    have next : isBl x = true → ToEnd cfg 127 (bodyOf Tryz.f127) (RetIs Tryz.prog Tryz.f127 (.str (trB (pre ++ x :: r)))) [.code [0, 0, 1, 1], .block 0, .code [1, 1, 1]] .normal
      [(0, true, .str (pre ++ x :: r)), (3, true, .int .i64 (IntKind.wrap .i64 ((pre.length : Int) + 1))), (4, true, .int .i64 ((pre ++ x :: r).length : Nat))] [] := fun hx => by
      rw [wrap_n hlen]
      have := ih (pre ++ [x]) (by simpa using hl) (fun y hy => by
        rcases List.mem_append.1 hy with h | h
        · exact hb y h
        · simp only [List.mem_singleton] at h; subst h; exact hx)
      simpa using this
    refine t127b (ctab_ok ctab_nil) (ifP_intro (fun _ => ?_) fun c => ?_)
    · rw [at_pre]
      refine gAnd_intro (inR_nat (by simp)) (ifP_intro (fun b => next (bl_of (.inl b))) fun b => gAnd_intro (inR_nat (by simp)) (ifP_intro (fun d => next (bl_of (.inr d))) fun d => ?_))
      have := loop127c hl (a := pre.length) (hpre pre (x :: r) hb) (.inr fun y hy => by
        simp at hy; subst hy; exact not_bl b d) ((x :: r).length) (by simp) (fun j y hj hy => by rw [List.getElem?_eq_none (by simpa using hj)] at hy; cases hy)
      simpa using this
    · simp at c; omega
theorem c127 : COk cfg 127 trimC := by
  refine cok_pure pf127 fun vs h K ht => ?_
  obtain ⟨s, hl, rfl, hk⟩ := ht
  exact ⟨_, hk, t127a (ctab_ok ctab_nil) (loop127b s [] hl (by simp))⟩
end Go.Proofs.YtnncfdlpogjlkaaGreatDoor
end
section
namespace Go.Proofs.YtnncfdlpogjlkaaGreatDoor
open Go.Ai Go
set_option maxRecDepth 100000
theorem valuesOf_cons (x : Fld) (r : List Fld) (nm : List UInt8) : valuesOf (x :: r) nm = if (lowS x.name == lowS nm) = true then x.value :: valuesOf r nm else valuesOf r nm := by
  unfold valuesOf; rw [List.filter_cons]
  split <;> simp
theorem okFs_mem {l : List Fld} (h : okFs l) {f : Fld} (hf : f ∈ l) : f.name.length ≤ lim ∧ f.value.length ≤ lim := h.2 f hf
theorem loop130 {nm : List UInt8} (hn : nm.length ≤ lim) {sz : Nat} : ∀ (r pre : List Fld) (acc : List (List UInt8)) (g : Nat), okFs (pre ++ r) → szOk sz 2 (pre ++ r).length → acc.length ≤ pre.length →
    ToEnd cfg 130 (bodyOf Tryz.f130) (RetIs Tryz.prog Tryz.f130 (.sl 1 (encS (acc ++ valuesOf r nm)) none)) [.code [0, 1, 0, 1, 1], .block 0, .code [1, 1, 1]] .normal
      [(0, true, .sl sz (encFs (pre ++ r)) none), (1, true, .str nm), (5, true, .sl 1 (encS acc) (some 1)), (6, true, .int .i64 pre.length)] [.grow g 1 9, .grow acc.length 1 9] := by
  have hT : TabOk cfg (ctab [(132, lowerC)]) := ctab_ok (ctab_cons c132 ctab_nil); intro r
  induction r with
  | nil =>
    intro pre acc g ho hs ha
    refine t130b hT (ifP_intro (fun c => ?_) fun _ => ?_)
    · simp [encFs_len] at c
    · rw [stripss_encS]; simp [valuesOf]
  | cons x r ih =>
    intro pre acc g ho hs ha
    have hlen : pre.length + 1 ≤ lim := by have := ho.1; simp at this; omega
    have hx := okFs_mem ho (f := x) (by simp)
    have hin : (inR (pre.length : Int) (encFs (pre ++ x :: r)).length && Nat.beq sz 2 && Nat.ble 1 sz) = true := by
      rw [encFs_len, inR_nat (by simp), Bool.true_and]
      exact hs.beq (by simp; omega) (by decide)
    refine t130b hT (ifP_intro (fun _ => gAnd_intro hin ⟨x.name, x.value, getE_fs _ _ _, x.name, hx.1, rfl, nm, hn, rfl, ifP_intro (fun b => gAnd_intro hin ⟨x.name, x.value, getE_fs _ _ _, gAnd_intro ?_ (gAnd_intro ?_ ?_)⟩) fun b => gAnd_intro ?_ ?_⟩) fun c => ?_)
    · rw [encS_len, tag_ok rfl, decide_eq_true (by unfold lim at hlen; omega)]; rfl
    · rw [low_encFs, show encS acc ++ [[AV.str x.value]] = encS (acc ++ [x.value]) by simp [encS], low_encS]; rfl
    · rw [wrap_n (by omega), show encS acc ++ [[AV.str x.value]] = encS (acc ++ [x.value]) by simp [encS], encS_len]
      have := ih (pre ++ [x]) (acc ++ [x.value]) g (by simpa using ho) (by simpa using hs) (by simpa using ha)
      rw [valuesOf_cons, if_pos b]; simpa using this
    · rw [low_encFs, low_encS]; rfl
    · rw [wrap_n (by omega)]
      have := ih (pre ++ [x]) acc g (by simpa using ho) (by simpa using hs) (by simp; omega)
      rw [valuesOf_cons, if_neg (by simp [b])]
      simpa using this
    · simp [encFs_len] at c; omega
theorem loop120 {nm : List UInt8} (hn : nm.length ≤ lim) {sz : Nat} : ∀ (r pre : List Fld) (acc : List (List UInt8)), okFs (pre ++ r) → szOk sz 2 (pre ++ r).length → acc.length ≤ pre.length →
    ToEnd cfg 120 (bodyOf Tryz.f120) (RetIs Tryz.prog Tryz.f120 (.sl 1 (encS (acc ++ valuesOf r nm)) none)) [.code [0, 1, 0, 1], .block 0, .code [1, 1]] .normal
      [(1, true, .str nm), (4, true, .sl 1 (encS acc) (some 0)), (7, true, .sl sz (encFs (pre ++ r)) none), (8, true, .int .i64 ((encFs (pre ++ r)).length : Nat)), (9, true, .int .i64 pre.length)] [.grow acc.length 1 9] := by
  have hT : TabOk cfg (ctab [(105, likeC)]) := ctab_ok (ctab_cons c105 ctab_nil); intro r
  induction r with
  | nil =>
    intro pre acc ho hs ha
    refine t120b hT (ifP_intro (fun c => ?_) fun _ => ?_)
    · simp [encFs_len] at c
    · rw [stripss_encS]; simp [valuesOf]
  | cons x r ih =>
    intro pre acc ho hs ha
    have hlen : pre.length + 1 ≤ lim := by have := ho.1; simp at this; omega
    have hx := okFs_mem ho (f := x) (by simp)
    have hin : (inR (pre.length : Int) (encFs (pre ++ x :: r)).length && Nat.beq sz 2 && Nat.ble 1 sz) = true := by
      rw [encFs_len, inR_nat (by simp), Bool.true_and]
      exact hs.beq (by simp; omega) (by decide)
    refine t120b hT (ifP_intro (fun _ => gAnd_intro hin ⟨x.name, x.value, getE_fs _ _ _, x.name, nm, hx.1, hn, rfl, ifP_intro (fun b => gAnd_intro ?_ (gAnd_intro ?_ ?_)) fun b => gAnd_intro ?_ ?_⟩) fun c => ?_)
    · rw [encS_len, tag_ok rfl, decide_eq_true (by unfold lim at hlen; omega)]; rfl
    · rw [low_encFs, show encS acc ++ [[AV.str x.value]] = encS (acc ++ [x.value]) by simp [encS], low_encS]; rfl
    · rw [wrap_n (by omega), show encS acc ++ [[AV.str x.value]] = encS (acc ++ [x.value]) by simp [encS], encS_len]
      have := ih (pre ++ [x]) (acc ++ [x.value]) (by simpa using ho) (by simpa using hs) (by simpa using ha)
      rw [valuesOf_cons, if_pos b]; simpa using this
    · rw [low_encFs, low_encS]; rfl
    · rw [wrap_n (by omega)]
      have := ih (pre ++ [x]) acc (by simpa using ho) (by simpa using hs) (by simp; omega)
      rw [valuesOf_cons, if_neg (by simp [b])]
      simpa using this
    · simp [encFs_len] at c; omega
theorem c130 : COk cfg 130 valuesC := by
  refine cok_pure pf130 fun vs h K ht => ?_
  obtain ⟨l, nm, sz, ho, hs, hn, rfl, hk⟩ := ht; refine ⟨_, hk, t130a (ctab_ok (ctab_cons c132 ctab_nil)) ?_⟩; have := loop130 hn l [] [] 0 ho hs (Nat.le_refl _); exact this
theorem c120 : COk cfg 120 valuesC := by
  refine cok_pure pf120 fun vs h K ht => ?_
  obtain ⟨l, nm, sz, ho, hs, hn, rfl, hk⟩ := ht; refine ⟨_, hk, t120a (ctab_ok (ctab_cons c105 ctab_nil)) ?_⟩; exact loop120 hn l [] [] ho hs (Nat.le_refl _)
theorem dg_int {c : UInt8} (h0 : 48 ≤ c.toNat) (h1 : c.toNat ≤ 57) : IntKind.wrap .i64 (IntKind.wrap .u8 ((c.toNat : Int) - 48)) = ((c.toNat - 48 : Nat) : Int) := by
  rw [wrap_u8 (by omega) (by omega), wrap_in (by omega) (by omega)]; omega
theorem loop133 : ∀ (r pre : List UInt8) (n : Nat), (pre ++ r).length ≤ 18 → n < 10 ^ pre.length →
    ToEnd cfg 133 (bodyOf Tryz.f133) (RetIs Tryz.prog Tryz.f133 (.tup [.int .i64 (if r.all dgB = true then (dgV n r : Nat) else 0), .bool (r.all dgB)])) [.code [0, 1, 0, 1, 1, 1], .block 0, .code [1, 1, 1, 1]] .normal
      [(0, true, .str (pre ++ r)), (4, true, .int .i64 n), (5, true, .int .i64 pre.length)] [] := by
  intro r
  induction r with
  | nil =>
    intro pre n hl hn
    refine t133b (ctab_ok ctab_nil) (ifP_intro (fun c => ?_) fun _ => rfl)
    simp at c
  | cons x r ih =>
    intro pre n hl hn
    have hlen : pre.length + 1 ≤ 18 := by simp at hl; omega
    have hx := x.toNat_lt
    have no : dgB x = false → (AV.tup [.int .i64 0, .bool false] = AV.tup [.int .i64 (if (x :: r).all dgB = true then (dgV n (x :: r) : Nat) else 0), .bool ((x :: r).all dgB)]) := fun h => by
      rw [List.all_cons, h]; rfl
    refine t133b (ctab_ok ctab_nil) (ifP_intro (fun _ => ?_) fun c => ?_)
    · rw [at_pre]
      refine gAnd_intro (inR_nat (by simp)) (ifP_intro (fun b => no ?_) fun b => gAnd_intro (inR_nat (by simp)) (ifP_intro (fun c => no ?_) fun c => gAnd_intro (inR_nat (by simp)) ?_))
      · simp only [decide_eq_true_eq] at b; simp [dgB]; omega
      · simp only [decide_eq_true_eq, gt_iff_lt] at c; simp [dgB]; omega
      · simp only [decide_eq_false_iff_not, gt_iff_lt] at b c
        have hd : dgB x = true := by
          unfold dgB
          rw [decide_eq_true (by omega), decide_eq_true (by omega)]; rfl
        have hp : 10 ^ pre.length ≤ 10 ^ 17 := Nat.pow_le_pow_right (by decide) (by omega)
        have e17 : (10 : Nat) ^ 17 = 100000000000000000 := by decide
        rw [dg_int (by omega) (by omega), wrap_n (by unfold lim; omega), wrap_in (n := 10 * (n : Int)) (by omega) (by omega), wrap_in (by omega) (by omega)]
        have := ih (pre ++ [x]) (10 * n + (x.toNat - 48)) (by simpa using hl) (by rw [List.length_append, List.length_singleton, Nat.pow_succ]; omega)
        rw [List.all_cons, hd, Bool.true_and]
        show ToEnd cfg 133 (bodyOf Tryz.f133) (RetIs Tryz.prog Tryz.f133 (.tup [.int .i64 (if r.all dgB = true then (dgV (10 * n + (x.toNat - 48)) r : Nat) else 0), .bool (r.all dgB)])) _ _ _ _
        simpa using this
    · simp at c; omega
theorem c133 : COk cfg 133 numC := by
  refine cok_pure pf133 fun vs h K ht => ?_
  obtain ⟨s, hl, rfl, hk⟩ := ht
  refine ⟨_, hk, t133a (ctab_ok ctab_nil) (ifP_intro (fun c => ?_) fun c => ifP_intro (fun d => ?_) fun d => ?_)⟩
  · have : s = [] := by cases s <;> simp_all; omega
    subst this; rfl
  · have : numB s = false := by
      simp only [gt_iff_lt, decide_eq_true_eq] at d; simp [numB]; intro _ _; omega
    rw [this]; rfl
  · simp only [gt_iff_lt, decide_eq_false_iff_not] at d
    have hne : s.isEmpty = false := by cases s <;> simp_all
    have hb : numB s = s.all dgB := by
      unfold numB
      rw [hne, decide_eq_true (by omega)]; simp
    rw [hb]
    exact loop133 s [] 0 (by simp; omega) (by simp)
theorem sameFs_len : ∀ {a b : List Fld}, a.length ≠ b.length → sameFs a b = false
  | [], [], h => by simp at h
  | [], _ :: _, _ => rfl
  | _ :: _, [], _ => rfl
  | a :: r, b :: s, h => by simp only [sameFs, sameFs_len (a := r) (b := s) (by simpa using h), Bool.and_false]
theorem sameFs_refl : ∀ (a : List Fld), sameFs a a = true
  | [] => rfl
  | a :: r => by simp [sameFs, sameFs_refl r]
theorem loop52 {sz sy : Nat} : ∀ (r s pre pre' : List Fld), pre.length = pre'.length → r.length = s.length → (pre ++ r).length ≤ lim → szOk sz 2 (pre ++ r).length → szOk sy 2 (pre' ++ s).length →
    ToEnd cfg 52 (bodyOf Tryz.f52) (RetIs Tryz.prog Tryz.f52 (.bool (sameFs r s))) [.code [0, 1, 0, 1, 1], .block 0, .code [1, 1, 1]] .normal
      [(0, true, .sl sz (encFs (pre ++ r)) none), (1, true, .sl sy (encFs (pre' ++ s)) none), (5, true, .int .i64 pre.length)] [] := by
  intro r
  induction r with
  | nil =>
    intro s pre pre' hp hr hl h1 h2
    obtain rfl : s = [] := by simpa using hr.symm
    refine t52b (ctab_ok ctab_nil) (ifP_intro (fun c => ?_) fun _ => rfl)
    simp [encFs_len] at c
  | cons x r ih =>
    intro s pre pre' hp hr hl h1 h2
    obtain ⟨y, s, rfl⟩ : ∃ y s', s = y :: s' := by cases s with | nil => simp at hr | cons y s => exact ⟨y, s, rfl⟩
    have hlen : pre.length ≤ lim := by simp at hl; omega
    have hin : (inR (pre.length : Int) (encFs (pre ++ x :: r)).length && Nat.beq sz 2 && Nat.ble 1 sz) = true := by
      rw [encFs_len, inR_nat (by simp), Bool.true_and]
      exact h1.beq (by simp; omega) (by decide)
    have hin' : (inR (pre.length : Int) (encFs (pre' ++ y :: s)).length && Nat.beq sy 2 && Nat.ble 1 sy) = true := by
      rw [encFs_len, inR_nat (by simp; omega), Bool.true_and]
      exact h2.beq (by simp; omega) (by decide)
    refine t52b (ctab_ok ctab_nil) (ifP_intro (fun _ => gAnd_intro hin ⟨x.name, x.value, getE_fs _ _ _, gAnd_intro hin' ⟨y.name, y.value, by rw [hp]; exact getE_fs _ _ _, ifP_intro (fun b => ?_) fun b => ?_⟩⟩) fun c => ?_)
    · simp only [Bool.not_eq_true'] at b; rw [sameFs, b]; rfl
    · simp only [Bool.not_eq_false'] at b; rw [sameFs, b, Bool.true_and, wrap_n hlen]
      have := ih s (pre ++ [x]) (pre' ++ [y]) (by simpa using hp) (by simpa using hr) (by simpa using hl) (by simpa using h1) (by simpa using h2)
      simpa using this
    · simp [encFs_len] at c; omega
theorem c52 : COk cfg 52 sameFsC := by
  refine cok_pure pf52 fun vs h K ht => ?_
  obtain ⟨a, b, sz, sy, hl, h1, h2, rfl, hk⟩ := ht
  refine ⟨_, hk, t52a (ctab_ok ctab_nil) (ifP_intro (fun c => ?_) fun c => ?_)⟩
  · rw [sameFs_len (by intro e; simp [encFs_len, e] at c)]
  · exact loop52 a b [] [] rfl (by simpa [encFs_len, bne, Int.ofNat_inj] using c) hl h1 h2
end Go.Proofs.YtnncfdlpogjlkaaGreatDoor
end
section
namespace Go.Proofs.YtnncfdlpogjlkaaGreatDoor
open Go.Ai Go
set_option maxRecDepth 100000
open Go.IntKind (wrap i64 u8)
open Go.Ai.AV (int str sl tup bool agg ptr)
open Go.Ai.Blk (mem grow)
open Go.Ai.Fm (code block loop)
open Go.Ai.XT (normal)
open List (length)
open Prod (fst snd)
open UInt8 (toNat)
open Tryz (prog f157 f159 f179 f181)
theorem t179 {K : AV → Hp → Prop} {s : List UInt8} {g n : Nat} {f x : Int} {es : List (List AV)} (hT : TabOk cfg (ctab [(117, trimC)])) (H : gAnd (cutOb (length s) (some f) (some x)) (∃ (s1 : List UInt8), length s1 ≤ 10000000 ∧ [str (cutL s (some f) (some x))] = [str s1] ∧ ifP (!trB s1 == []) (gAnd (tagOk [mem 9 [str s], grow g 1 9, grow n 1 9, mem 51 [sl 1 es (some 2)], mem 3 [int i64 f], grow 1 1 9] (length es) 1 9 (some 2) && true && true && true && decide ((length es + 1) * 16 ≤ 140737488355328) && true && true) (K (tup []) [mem 9 [str s], grow g 1 9, grow (length es + 1) 1 9, mem 51 [sl 1 (stripss 5 [mem 9 [str s], grow g 1 9, grow (length es + 1) 1 9, mem 51 [sl 1 (es ++ [[str (trB s1)]]) (some 2)], mem 3 [int i64 (wrap i64 (x + 1))], grow 1 1 9] (es ++ [[str (trB s1)]])) (some 2)], mem 3 [int i64 (wrap i64 (x + 1))]])) (K (tup []) [mem 9 [str s], grow g 1 9, grow n 1 9, mem 51 [sl 1 (stripss 5 [mem 9 [str s], grow g 1 9, grow n 1 9, mem 51 [sl 1 es (some 2)], mem 3 [int i64 (wrap i64 (x + 1))]] es) (some 2)], mem 3 [int i64 (wrap i64 (x + 1))]]))) : ToEnd cfg 179 (bodyOf f179) (RetIn prog f179 5 K) ([.code []]) .normal ([(0, true, .int .i64 x), (1, true, .ptr 0 0), (2, true, .ptr 4 0), (3, true, .ptr 3 0)]) ([.mem 9 [.str s], .grow g 1 9, .grow n 1 9, .mem 51 [.sl 1 es (some 2)], .mem 3 [.int .i64 f]]) := by
  exact unr_ok (pl := ⟨[], []⟩) hT 100000 _ _ _ _ (unr_use H (by kernel_rfl))
theorem t157a {v : AV} {s : List UInt8} {sep : Int} (hT : TabOk cfg (ctab [(179, takeC)])) (H : ifP (sep == 34) (tup [sl 1 [] none, int i64 2] = v) (ifP (sep == 92) (tup [sl 1 [] none, int i64 2] = v) (ToEnd cfg 157 (bodyOf f157) (RetIs prog f157 v) [code [0, 1, 0, 1, 1, 1, 1, 1], block 0, code [1, 1, 1, 1, 1, 1]] normal [(1, true, int u8 sep), (2, true, ptr 0 0), (6, true, ptr 3 0), (8, true, bool false), (9, true, bool false), (10, true, AV.fn (Fn.func 179) [] [ptr 0 0, ptr 4 0, ptr 3 0]), (21, true, int i64 (↑(length s) : Int)), (22, true, int i64 0)] [mem 9 [str s], grow 0 1 9, grow 0 1 9, mem 51 [sl 1 [] (some 2)], mem 3 [int i64 0]]))) : ToEnd cfg 157 (bodyOf f157) (RetIs prog f157 v) ([.code []]) .normal ([(0, true, .str s), (1, true, .int .u8 sep)]) ([]) := by
  exact unr_ok (pl := ⟨[[0, 1, 0, 1, 1, 1, 1, 1]], []⟩) hT 100000 _ _ _ _ (unr_use H (by kernel_rfl))
theorem t157b {v : AV} {s : List UInt8} {sep : Int} {op be : Bool} {g n : Nat} {f m i : Int} {es : List (List AV)} (hT : TabOk cfg (ctab [(179, takeC)])) (H : ifP (decide (i < m)) (gAnd (inR i (length s)) (ifP be (ToEnd cfg 157 (bodyOf f157) (RetIs prog f157 v) [code [0, 1, 0, 1, 1, 1, 1, 1], block 0, code [1, 1, 1, 1, 1, 1]] normal [(1, true, int u8 sep), (2, true, ptr 0 0), (6, true, ptr 3 0), (8, true, bool op), (9, true, bool false), (10, true, AV.fn (Fn.func 179) [] [ptr 0 0, ptr 4 0, ptr 3 0]), (21, true, int i64 m), (22, true, int i64 (wrap i64 (i + 1)))] [mem 9 [str s], grow g 1 9, grow n 1 9, mem 51 [sl 1 es (some 2)], mem 3 [int i64 f]]) (ifP op (ifP ((↑(toNat (List.getD s (Int.toNat i) 0)) : Int) == 92) (ToEnd cfg 157 (bodyOf f157) (RetIs prog f157 v) [code [0, 1, 0, 1, 1, 1, 1, 1], block 0, code [1, 1, 1, 1, 1, 1]] normal [(1, true, int u8 sep), (2, true, ptr 0 0), (6, true, ptr 3 0), (8, true, bool op), (9, true, bool true), (10, true, AV.fn (Fn.func 179) [] [ptr 0 0, ptr 4 0, ptr 3 0]), (21, true, int i64 m), (22, true, int i64 (wrap i64 (i + 1)))] [mem 9 [str s], grow g 1 9, grow n 1 9, mem 51 [sl 1 es (some 2)], mem 3 [int i64 f]]) (ifP ((↑(toNat (List.getD s (Int.toNat i) 0)) : Int) == 34) (ToEnd cfg 157 (bodyOf f157) (RetIs prog f157 v) [code [0, 1, 0, 1, 1, 1, 1, 1], block 0, code [1, 1, 1, 1, 1, 1]] normal [(1, true, int u8 sep), (2, true, ptr 0 0), (6, true, ptr 3 0), (8, true, bool !op), (9, true, bool be), (10, true, AV.fn (Fn.func 179) [] [ptr 0 0, ptr 4 0, ptr 3 0]), (21, true, int i64 m), (22, true, int i64 (wrap i64 (i + 1)))] [mem 9 [str s], grow g 1 9, grow n 1 9, mem 51 [sl 1 es (some 2)], mem 3 [int i64 f]]) (ifP ((↑(toNat (List.getD s (Int.toNat i) 0)) : Int) == sep) (ifP (!op) (∃ (acc1 : List (List UInt8)) (a2 : Nat) (b3 : Nat), (1 = 1 ∧ 9 = 9 ∧ 1 = 1 ∧ 9 = 9 ∧ 1 = 1 ∧ 2 = 2 ∧ i64 = i64 ∧ 9 = 9 ∧ 51 = 51 ∧ 3 = 3) ∧ es = encS acc1 ∧ n = length acc1 ∧ f = (↑a2 : Int) ∧ a2 ≤ b3 ∧ b3 ≤ length s ∧ length s ≤ 10000000 ∧ length acc1 ≤ b3 ∧ [int i64 i, ptr 0 0, ptr 4 0, ptr 3 0] = [int i64 (↑b3 : Int), ptr 0 0, ptr 4 0, ptr 3 0] ∧ ToEnd cfg 157 (bodyOf f157) (RetIs prog f157 v) [code [0, 1, 0, 1, 1, 1, 1, 1], block 0, code [1, 1, 1, 1, 1, 1]] normal [(1, true, int u8 sep), (2, true, ptr 0 0), (6, true, ptr 3 0), (8, true, bool op), (9, true, bool be), (10, true, AV.fn (Fn.func 179) [] [ptr 0 0, ptr 4 0, ptr 3 0]), (21, true, int i64 m), (22, true, int i64 (wrap i64 (i + 1)))] [mem 9 [str s], grow g 1 9, grow (length (acc1 ++ keepP (List.drop a2 (List.take b3 s)))) 1 9, mem 51 [sl 1 (encS (acc1 ++ keepP (List.drop a2 (List.take b3 s)))) (some 2)], mem 3 [int i64 (↑(b3 + 1) : Int)]]) (ToEnd cfg 157 (bodyOf f157) (RetIs prog f157 v) [code [0, 1, 0, 1, 1, 1, 1, 1], block 0, code [1, 1, 1, 1, 1, 1]] normal [(1, true, int u8 sep), (2, true, ptr 0 0), (6, true, ptr 3 0), (8, true, bool op), (9, true, bool be), (10, true, AV.fn (Fn.func 179) [] [ptr 0 0, ptr 4 0, ptr 3 0]), (21, true, int i64 m), (22, true, int i64 (wrap i64 (i + 1)))] [mem 9 [str s], grow g 1 9, grow n 1 9, mem 51 [sl 1 es (some 2)], mem 3 [int i64 f]])) (ToEnd cfg 157 (bodyOf f157) (RetIs prog f157 v) [code [0, 1, 0, 1, 1, 1, 1, 1], block 0, code [1, 1, 1, 1, 1, 1]] normal [(1, true, int u8 sep), (2, true, ptr 0 0), (6, true, ptr 3 0), (8, true, bool op), (9, true, bool be), (10, true, AV.fn (Fn.func 179) [] [ptr 0 0, ptr 4 0, ptr 3 0]), (21, true, int i64 m), (22, true, int i64 (wrap i64 (i + 1)))] [mem 9 [str s], grow g 1 9, grow n 1 9, mem 51 [sl 1 es (some 2)], mem 3 [int i64 f]])))) (ifP ((↑(toNat (List.getD s (Int.toNat i) 0)) : Int) == 34) (ToEnd cfg 157 (bodyOf f157) (RetIs prog f157 v) [code [0, 1, 0, 1, 1, 1, 1, 1], block 0, code [1, 1, 1, 1, 1, 1]] normal [(1, true, int u8 sep), (2, true, ptr 0 0), (6, true, ptr 3 0), (8, true, bool !op), (9, true, bool be), (10, true, AV.fn (Fn.func 179) [] [ptr 0 0, ptr 4 0, ptr 3 0]), (21, true, int i64 m), (22, true, int i64 (wrap i64 (i + 1)))] [mem 9 [str s], grow g 1 9, grow n 1 9, mem 51 [sl 1 es (some 2)], mem 3 [int i64 f]]) (ifP ((↑(toNat (List.getD s (Int.toNat i) 0)) : Int) == sep) (ifP (!op) (∃ (acc4 : List (List UInt8)) (a5 : Nat) (b6 : Nat), (1 = 1 ∧ 9 = 9 ∧ 1 = 1 ∧ 9 = 9 ∧ 1 = 1 ∧ 2 = 2 ∧ i64 = i64 ∧ 9 = 9 ∧ 51 = 51 ∧ 3 = 3) ∧ es = encS acc4 ∧ n = length acc4 ∧ f = (↑a5 : Int) ∧ a5 ≤ b6 ∧ b6 ≤ length s ∧ length s ≤ 10000000 ∧ length acc4 ≤ b6 ∧ [int i64 i, ptr 0 0, ptr 4 0, ptr 3 0] = [int i64 (↑b6 : Int), ptr 0 0, ptr 4 0, ptr 3 0] ∧ ToEnd cfg 157 (bodyOf f157) (RetIs prog f157 v) [code [0, 1, 0, 1, 1, 1, 1, 1], block 0, code [1, 1, 1, 1, 1, 1]] normal [(1, true, int u8 sep), (2, true, ptr 0 0), (6, true, ptr 3 0), (8, true, bool op), (9, true, bool be), (10, true, AV.fn (Fn.func 179) [] [ptr 0 0, ptr 4 0, ptr 3 0]), (21, true, int i64 m), (22, true, int i64 (wrap i64 (i + 1)))] [mem 9 [str s], grow g 1 9, grow (length (acc4 ++ keepP (List.drop a5 (List.take b6 s)))) 1 9, mem 51 [sl 1 (encS (acc4 ++ keepP (List.drop a5 (List.take b6 s)))) (some 2)], mem 3 [int i64 (↑(b6 + 1) : Int)]]) (ToEnd cfg 157 (bodyOf f157) (RetIs prog f157 v) [code [0, 1, 0, 1, 1, 1, 1, 1], block 0, code [1, 1, 1, 1, 1, 1]] normal [(1, true, int u8 sep), (2, true, ptr 0 0), (6, true, ptr 3 0), (8, true, bool op), (9, true, bool be), (10, true, AV.fn (Fn.func 179) [] [ptr 0 0, ptr 4 0, ptr 3 0]), (21, true, int i64 m), (22, true, int i64 (wrap i64 (i + 1)))] [mem 9 [str s], grow g 1 9, grow n 1 9, mem 51 [sl 1 es (some 2)], mem 3 [int i64 f]])) (ToEnd cfg 157 (bodyOf f157) (RetIs prog f157 v) [code [0, 1, 0, 1, 1, 1, 1, 1], block 0, code [1, 1, 1, 1, 1, 1]] normal [(1, true, int u8 sep), (2, true, ptr 0 0), (6, true, ptr 3 0), (8, true, bool op), (9, true, bool be), (10, true, AV.fn (Fn.func 179) [] [ptr 0 0, ptr 4 0, ptr 3 0]), (21, true, int i64 m), (22, true, int i64 (wrap i64 (i + 1)))] [mem 9 [str s], grow g 1 9, grow n 1 9, mem 51 [sl 1 es (some 2)], mem 3 [int i64 f]])))))) (ifP op (tup [sl 1 [] none, int i64 4] = v) (∃ (acc7 : List (List UInt8)) (a8 : Nat) (b9 : Nat), (1 = 1 ∧ 9 = 9 ∧ 1 = 1 ∧ 9 = 9 ∧ 1 = 1 ∧ 2 = 2 ∧ i64 = i64 ∧ 9 = 9 ∧ 51 = 51 ∧ 3 = 3) ∧ es = encS acc7 ∧ n = length acc7 ∧ f = (↑a8 : Int) ∧ a8 ≤ b9 ∧ b9 ≤ length s ∧ length s ≤ 10000000 ∧ length acc7 ≤ b9 ∧ [int i64 (↑(length s) : Int), ptr 0 0, ptr 4 0, ptr 3 0] = [int i64 (↑b9 : Int), ptr 0 0, ptr 4 0, ptr 3 0] ∧ ifP (decide ((↑(length (encS (acc7 ++ keepP (List.drop a8 (List.take b9 s))))) : Int) > 64)) (tup [sl 1 [] none, int i64 3] = v) (tup [sl 1 (stripss 0 [mem 9 [str s], grow g 1 9, grow (length (acc7 ++ keepP (List.drop a8 (List.take b9 s)))) 1 9, mem 51 [sl 1 (encS (acc7 ++ keepP (List.drop a8 (List.take b9 s)))) (some 2)], mem 3 [int i64 (↑(b9 + 1) : Int)]] (encS (acc7 ++ keepP (List.drop a8 (List.take b9 s))))) none, int i64 0] = v)))) : ToEnd cfg 157 (bodyOf f157) (RetIs prog f157 v) ([.code [0, 1, 0, 1, 1, 1, 1, 1], .block 0, .code [1, 1, 1, 1, 1, 1]]) .normal ([(1, true, .int .u8 sep), (2, true, .ptr 0 0), (6, true, .ptr 3 0), (8, true, .bool op), (9, true, .bool be), (10, true, .fn (.func 179) [] [.ptr 0 0, .ptr 4 0, .ptr 3 0]), (21, true, .int .i64 m), (22, true, .int .i64 i)]) ([.mem 9 [.str s], .grow g 1 9, .grow n 1 9, .mem 51 [.sl 1 es (some 2)], .mem 3 [.int .i64 f]]) := by
  exact ends_round (pl := ⟨[[0, 1, 0, 1, 1, 1, 1, 1]], []⟩) hT 100000 (by kernel_rfl) (unr_use H (by kernel_rfl))
theorem t181a {v : AV} {s : List UInt8} (hT : TabOk cfg (ctab [])) (H : gAnd (decide ((↑(length s) : Int) = (↑(length s) : Int)) && decide (1 * (↑(length s) : Int) ≤ 281474976710656) && decide ((↑(length s) : Int) ≤ 9223372036854775807) && true && true && true) (ToEnd cfg 181 (bodyOf f181) (RetIs prog f181 v) [code [0, 0, 1, 1, 1], block 0, code [1, 1, 1, 1]] normal [(0, true, str s), (4, true, AV.osl 1 0 (Int.toNat (↑(length s) : Int)) 1), (5, true, int i64 0)] [grow 0 1 4, mem 4 (List.replicate (Int.toNat (↑(length s) : Int)) (ofConst (Value.bool false)))])) : ToEnd cfg 181 (bodyOf f181) (RetIs prog f181 v) ([.code []]) .normal ([(0, true, .str s)]) ([]) := by
  exact unr_ok (pl := ⟨[[0, 0, 1, 1, 1], [0, 0, 1, 1, 1, 0, 1, 0, 0, 0, 1, 1, 1]], []⟩) hT 100000 _ _ _ _ (unr_use H (by kernel_rfl))
theorem t181b {v : AV} {s : List UInt8} {N : Nat} {i : Int} {cs : List AV} (hT : TabOk cfg (ctab [])) (H : ifP (decide (i < (↑(length s) : Int))) (gAnd (inR i (length s)) (ifP ((↑(toNat (List.getD s (Int.toNat i) 0)) : Int) != 34) (ToEnd cfg 181 (bodyOf f181) (RetIs prog f181 v) [code [0, 0, 1, 1, 1], block 0, code [1, 1, 1, 1]] normal [(0, true, str s), (4, true, AV.osl 1 0 N 1), (5, true, int i64 (wrap i64 (i + 1)))] [grow 0 1 4, mem 4 cs]) (gAnd (inR i N && true && true) (gAnd (Nat.ble (0 + Int.toNat i * 1 + 1) (length cs)) (ToEnd cfg 181 (bodyOf f181) (RetIs prog f181 v) [code [0, 0, 1, 1, 1, 0, 1, 0, 0, 0, 1, 1, 1], block 2, code [1, 1, 1, 1, 0, 1, 0, 0, 0, 1, 1, 1], block 1, loop [0, 0, 1, 1, 1] 2, block 0, code [1, 1, 1, 1]] normal [(0, true, str s), (4, true, AV.osl 1 0 N 1), (5, true, int i64 (wrap i64 (i + 1)))] [grow 0 1 4, mem 4 (splice cs (0 + Int.toNat i * 1) [ofConst (Value.bool true)])]))))) (tup [stripR1 0 [grow 0 1 4, mem 4 cs] (AV.osl 1 0 N 1), bool true] = v)) : ToEnd cfg 181 (bodyOf f181) (RetIs prog f181 v) ([.code [0, 0, 1, 1, 1], .block 0, .code [1, 1, 1, 1]]) .normal ([(0, true, .str s), (4, true, .osl 1 0 N 1), (5, true, .int .i64 i)]) ([.grow 0 1 4, .mem 4 cs]) := by
  exact ends_round (pl := ⟨[[0, 0, 1, 1, 1], [0, 0, 1, 1, 1, 0, 1, 0, 0, 0, 1, 1, 1]], []⟩) hT 100000 (by kernel_rfl) (unr_use H (by kernel_rfl))
theorem t181c {v : AV} {s : List UInt8} {N : Nat} {i : Int} {cs : List AV} (hT : TabOk cfg (ctab [])) (H : ifP (decide (i < (↑(length s) : Int))) (gAnd (inR i (length s)) (ifP ((↑(toNat (List.getD s (Int.toNat i) 0)) : Int) != 34) (gAnd (inR i N && true && true) (gAnd (Nat.ble (0 + Int.toNat i * 1 + 1) (length cs)) (gAnd (inR i (length s)) (ifP ((↑(toNat (List.getD s (Int.toNat i) 0)) : Int) == 92) (ifP (decide (wrap i64 (i + 1) < (↑(length s) : Int))) (gAnd (inR (wrap i64 (i + 1)) N && true && true) (gAnd (Nat.ble (0 + Int.toNat (wrap i64 (i + 1)) * 1 + 1) (length (splice cs (0 + Int.toNat i * 1) [ofConst (Value.bool true)]))) (ToEnd cfg 181 (bodyOf f181) (RetIs prog f181 v) [code [0, 0, 1, 1, 1, 0, 1, 0, 0, 0, 1, 1, 1], block 2, code [1, 1, 1, 1, 0, 1, 0, 0, 0, 1, 1, 1], block 1, loop [0, 0, 1, 1, 1] 2, block 0, code [1, 1, 1, 1]] normal [(0, true, str s), (4, true, AV.osl 1 0 N 1), (5, true, int i64 (wrap i64 (wrap i64 (i + 1) + 1)))] [grow 0 1 4, mem 4 (splice (splice cs (0 + Int.toNat i * 1) [ofConst (Value.bool true)]) (0 + Int.toNat (wrap i64 (i + 1)) * 1) [ofConst (Value.bool true)])]))) (ToEnd cfg 181 (bodyOf f181) (RetIs prog f181 v) [code [0, 0, 1, 1, 1, 0, 1, 0, 0, 0, 1, 1, 1], block 2, code [1, 1, 1, 1, 0, 1, 0, 0, 0, 1, 1, 1], block 1, loop [0, 0, 1, 1, 1] 2, block 0, code [1, 1, 1, 1]] normal [(0, true, str s), (4, true, AV.osl 1 0 N 1), (5, true, int i64 (wrap i64 (i + 1)))] [grow 0 1 4, mem 4 (splice cs (0 + Int.toNat i * 1) [ofConst (Value.bool true)])])) (ToEnd cfg 181 (bodyOf f181) (RetIs prog f181 v) [code [0, 0, 1, 1, 1, 0, 1, 0, 0, 0, 1, 1, 1], block 2, code [1, 1, 1, 1, 0, 1, 0, 0, 0, 1, 1, 1], block 1, loop [0, 0, 1, 1, 1] 2, block 0, code [1, 1, 1, 1]] normal [(0, true, str s), (4, true, AV.osl 1 0 N 1), (5, true, int i64 (wrap i64 (i + 1)))] [grow 0 1 4, mem 4 (splice cs (0 + Int.toNat i * 1) [ofConst (Value.bool true)])]))))) (ifP (i == (↑(length s) : Int)) (tup [stripR1 0 [grow 0 1 4, mem 4 cs] (AV.osl 1 0 N 1), bool false] = v) (gAnd (inR i N && true && true) (gAnd (Nat.ble (0 + Int.toNat i * 1 + 1) (length cs)) (ToEnd cfg 181 (bodyOf f181) (RetIs prog f181 v) [code [0, 0, 1, 1, 1], block 0, code [1, 1, 1, 1]] normal [(0, true, str s), (4, true, AV.osl 1 0 N 1), (5, true, int i64 (wrap i64 (i + 1)))] [grow 0 1 4, mem 4 (splice cs (0 + Int.toNat i * 1) [ofConst (Value.bool true)])])))))) (ifP (i == (↑(length s) : Int)) (tup [stripR1 0 [grow 0 1 4, mem 4 cs] (AV.osl 1 0 N 1), bool false] = v) (gAnd (inR i N && true && true) (gAnd (Nat.ble (0 + Int.toNat i * 1 + 1) (length cs)) (ToEnd cfg 181 (bodyOf f181) (RetIs prog f181 v) [code [0, 0, 1, 1, 1], block 0, code [1, 1, 1, 1]] normal [(0, true, str s), (4, true, AV.osl 1 0 N 1), (5, true, int i64 (wrap i64 (i + 1)))] [grow 0 1 4, mem 4 (splice cs (0 + Int.toNat i * 1) [ofConst (Value.bool true)])]))))) : ToEnd cfg 181 (bodyOf f181) (RetIs prog f181 v) ([.code [0, 0, 1, 1, 1, 0, 1, 0, 0, 0, 1, 1, 1], .block 2, .code [1, 1, 1, 1, 0, 1, 0, 0, 0, 1, 1, 1], .block 1, .loop [0, 0, 1, 1, 1] 2, .block 0, .code [1, 1, 1, 1]]) .normal ([(0, true, .str s), (4, true, .osl 1 0 N 1), (5, true, .int .i64 i)]) ([.grow 0 1 4, .mem 4 cs]) := by
  exact ends_round (pl := ⟨[[0, 0, 1, 1, 1], [0, 0, 1, 1, 1, 0, 1, 0, 0, 0, 1, 1, 1]], []⟩) hT 100000 (by kernel_rfl) (unr_use H (by kernel_rfl))
theorem t159a {v : AV} {s : List UInt8} {sep : Int} (hT : TabOk cfg (ctab [(181, quotC), (127, trimC)])) (H : ifP (sep == 34) (tup [sl 1 [] none, int i64 2] = v) (ifP (sep == 92) (tup [sl 1 [] none, int i64 2] = v) (∃ (s1 : List UInt8), length s1 ≤ 10000000 ∧ [str s] = [str s1] ∧ ifP (!!opnG false false s1) (tup [sl 1 [] none, int i64 4] = v) (ToEnd cfg 159 (bodyOf f159) (RetIs prog f159 v) [code [0, 1, 0, 1, 1, 1, 1, 1, 1], block 0, code [1, 1, 1, 1, 1, 1, 1]] normal [(0, true, str s), (1, true, int u8 sep), (6, true, sl 1 (List.map (fun (b : Bool) ↦ [bool b]) (quoG false false s1)) none), (8, true, sl 1 [] (some 1)), (9, true, int i64 0), (10, true, int i64 0)] [grow 0 1 9, grow 0 1 9])))) : ToEnd cfg 159 (bodyOf f159) (RetIs prog f159 v) ([.code []]) .normal ([(0, true, .str s), (1, true, .int .u8 sep)]) ([]) := by
  exact unr_ok (pl := ⟨[[0, 1, 0, 1, 1, 1, 1, 1, 1]], [([0, 0, 0, 0, 1, 0, 0, 1, 0, 1, 1, 1, 1, 1, 1], 13, [.bool])]⟩) hT 100000 _ _ _ _ (unr_use H (by kernel_rfl))
theorem t159b {v : AV}   {s0 : List UInt8} {i1 : Int} {e6 : List (List AV)} {e8 : List (List AV)} {i9 : Int} {i10 : Int} {g0 : Nat} {g1 : Nat} (hT : TabOk cfg (ctab [(181, quotC), (127, trimC)])) (H : ifP (decide (i10 ≤ (↑(length s0) : Int))) (ifP (decide (i10 < (↑(length s0) : Int))) (gAnd (inR i10 (length s0)) (ifP ((↑(toNat (List.getD s0 (Int.toNat i10) 0)) : Int) != i1) (gAnd (lowVss 2 e6 && true && (lowVss 2 e8 && true && true) && true) (ToEnd cfg 159 (bodyOf f159) (RetIs prog f159 v) [code [0, 1, 0, 1, 1, 1, 1, 1, 1], block 0, code [1, 1, 1, 1, 1, 1, 1]] normal [(0, true, str s0), (1, true, int u8 i1), (6, true, sl 1 e6 none), (8, true, sl 1 e8 (some 1)), (9, true, int i64 i9), (10, true, int i64 (wrap i64 (i10 + 1)))] [grow g0 1 9, grow g1 1 9])) (gAnd (inR i10 (length e6) && true && true) (∃ (b1 : Bool), getE e6 i10 = [bool b1] ∧ ifP b1 (gAnd (lowVss 2 e6 && true && (lowVss 2 e8 && true && true) && true) (ToEnd cfg 159 (bodyOf f159) (RetIs prog f159 v) [code [0, 1, 0, 1, 1, 1, 1, 1, 1], block 0, code [1, 1, 1, 1, 1, 1, 1]] normal [(0, true, str s0), (1, true, int u8 i1), (6, true, sl 1 e6 none), (8, true, sl 1 e8 (some 1)), (9, true, int i64 i9), (10, true, int i64 (wrap i64 (i10 + 1)))] [grow g0 1 9, grow g1 1 9])) (gAnd (cutOb (length s0) (some i9) (some i10)) (∃ (s2 : List UInt8), length s2 ≤ 10000000 ∧ [str (cutL s0 (some i9) (some i10))] = [str s2] ∧ ifP (!trB s2 == []) (gAnd (tagOk [grow g0 1 9, grow g1 1 9, grow 1 1 9] (length e8) 1 9 (some 1) && true && true && true && decide ((length e8 + 1) * 16 ≤ 140737488355328) && true && true) (gAnd (lowVss 2 e6 && true && (lowVss 2 (e8 ++ [[str (trB s2)]]) && true && true) && true) (ToEnd cfg 159 (bodyOf f159) (RetIs prog f159 v) [code [0, 1, 0, 1, 1, 1, 1, 1, 1], block 0, code [1, 1, 1, 1, 1, 1, 1]] normal [(0, true, str s0), (1, true, int u8 i1), (6, true, sl 1 e6 none), (8, true, sl 1 (e8 ++ [[str (trB s2)]]) (some 1)), (9, true, int i64 (wrap i64 (i10 + 1))), (10, true, int i64 (wrap i64 (i10 + 1)))] [grow g0 1 9, grow (length e8 + 1) 1 9]))) (gAnd (lowVss 2 e6 && true && (lowVss 2 e8 && true && true) && true) (ToEnd cfg 159 (bodyOf f159) (RetIs prog f159 v) [code [0, 1, 0, 1, 1, 1, 1, 1, 1], block 0, code [1, 1, 1, 1, 1, 1, 1]] normal [(0, true, str s0), (1, true, int u8 i1), (6, true, sl 1 e6 none), (8, true, sl 1 e8 (some 1)), (9, true, int i64 (wrap i64 (i10 + 1))), (10, true, int i64 (wrap i64 (i10 + 1)))] [grow g0 1 9, grow g1 1 9])))))))) (gAnd (cutOb (length s0) (some i9) (some i10)) (∃ (s3 : List UInt8), length s3 ≤ 10000000 ∧ [str (cutL s0 (some i9) (some i10))] = [str s3] ∧ ifP (!trB s3 == []) (gAnd (tagOk [grow g0 1 9, grow g1 1 9, grow 1 1 9] (length e8) 1 9 (some 1) && true && true && true && decide ((length e8 + 1) * 16 ≤ 140737488355328) && true && true) (gAnd (lowVss 2 e6 && true && (lowVss 2 (e8 ++ [[str (trB s3)]]) && true && true) && true) (ToEnd cfg 159 (bodyOf f159) (RetIs prog f159 v) [code [0, 1, 0, 1, 1, 1, 1, 1, 1], block 0, code [1, 1, 1, 1, 1, 1, 1]] normal [(0, true, str s0), (1, true, int u8 i1), (6, true, sl 1 e6 none), (8, true, sl 1 (e8 ++ [[str (trB s3)]]) (some 1)), (9, true, int i64 (wrap i64 (i10 + 1))), (10, true, int i64 (wrap i64 (i10 + 1)))] [grow g0 1 9, grow (length e8 + 1) 1 9]))) (gAnd (lowVss 2 e6 && true && (lowVss 2 e8 && true && true) && true) (ToEnd cfg 159 (bodyOf f159) (RetIs prog f159 v) [code [0, 1, 0, 1, 1, 1, 1, 1, 1], block 0, code [1, 1, 1, 1, 1, 1, 1]] normal [(0, true, str s0), (1, true, int u8 i1), (6, true, sl 1 e6 none), (8, true, sl 1 e8 (some 1)), (9, true, int i64 (wrap i64 (i10 + 1))), (10, true, int i64 (wrap i64 (i10 + 1)))] [grow g0 1 9, grow g1 1 9]))))) (ifP (decide ((↑(length e8) : Int) > 64)) (tup [sl 1 [] none, int i64 3] = v) (tup [sl 1 (stripss 0 [grow g0 1 9, grow g1 1 9] e8) none, int i64 0] = v))) : ToEnd cfg 159 (bodyOf f159) (RetIs prog f159 v) ([.code [0, 1, 0, 1, 1, 1, 1, 1, 1], block 0, code [1, 1, 1, 1, 1, 1, 1]]) .normal ([(0, true, str s0), (1, true, int u8 i1), (6, true, sl 1 e6 none), (8, true, sl 1 e8 (some 1)), (9, true, int i64 i9), (10, true, int i64 i10)]) ([grow g0 1 9, grow g1 1 9]) := by
  exact ends_round (pl := ⟨[[0, 1, 0, 1, 1, 1, 1, 1, 1]], [([0, 0, 0, 0, 1, 0, 0, 1, 0, 1, 1, 1, 1, 1, 1], 13, [.bool])]⟩) hT 100000 (by kernel_rfl) (unr_use H (by kernel_rfl))
end Go.Proofs.YtnncfdlpogjlkaaGreatDoor
end
section
namespace Go.Proofs.YtnncfdlpogjlkaaGreatDoor
open Go.Ai Go
set_option maxRecDepth 100000
theorem hf179 : heapFn cfg 179 Tryz.f179 := (by refine ⟨?_, ?_, ?_, ?_, ?_, ?_⟩ <;> kernel_rfl)
theorem pf157 : pureFn cfg 157 Tryz.f157 := (by refine ⟨?_, ?_, ?_, ?_, ?_, ?_⟩ <;> kernel_rfl)
theorem pf181 : pureFn cfg 181 Tryz.f181 := (by refine ⟨?_, ?_, ?_, ?_, ?_, ?_⟩ <;> kernel_rfl)
theorem pf159 : pureFn cfg 159 Tryz.f159 := (by refine ⟨?_, ?_, ?_, ?_, ?_, ?_⟩ <;> kernel_rfl)
theorem c179 : COk cfg 179 takeC := by
  refine cok_heap hf179 fun vs h K ht => ?_
  unfold takeC at ht; split at ht
  · obtain ⟨acc, a, b, ⟨rfl, rfl, rfl, rfl, rfl, rfl, rfl, rfl, rfl, rfl⟩, rfl, rfl, rfl, hab, hb, hl, ha, rfl, hk⟩ := ht; rename_i s g
    have hlt : ((s.take b).drop a).length ≤ 10000000 := by simp; unfold lim at hl; omega
    refine t179 (ctab_ok (ctab_cons c117 ctab_nil)) (gAnd_intro (by simp [cutOb]; omega) ⟨(s.take b).drop a, hlt, rfl, ifP_intro (fun q => gAnd_intro ?_ ?_) fun q => ?_⟩)
    · rw [encS_len, tag_ok rfl, decide_eq_true (by unfold lim at hl; omega)]; rfl
    · rw [encS_one, stripss_encS, encS_len, wrap_n (by omega)]
      rw [keepP_some q] at hk; simpa using hk
    · rw [stripss_encS, wrap_n (by omega)]
      rw [keepP_none q, List.append_nil] at hk; exact hk
  · exact ht.elim
theorem drop_snoc {a : Nat} {pre : List UInt8} (x : UInt8) (h : a ≤ pre.length) : (pre ++ [x]).drop a = pre.drop a ++ [x] := List.drop_append_of_le_length h
theorem take_pre (pre r : List UInt8) (a : Nat) : ((pre ++ r).take pre.length).drop a = pre.drop a := by simp
theorem loop157 {sep : UInt8} (h34 : sep ≠ 34) (h92 : sep ≠ 92) : ∀ (r pre : List UInt8) (a : Nat) (acc : List (List UInt8)) (op be : Bool), (pre ++ r).length ≤ lim → a ≤ pre.length → acc.length ≤ pre.length →
    ToEnd cfg 157 (bodyOf Tryz.f157) (RetIs Tryz.prog Tryz.f157 (ansV (splitEnd (opnG op be r) (acc ++ splG sep (pre.drop a) op be r)))) [.code [0, 1, 0, 1, 1, 1, 1, 1], .block 0, .code [1, 1, 1, 1, 1, 1]] .normal
      [(1, true, .int .u8 (sep.toNat : Nat)), (2, true, .ptr 0 0), (6, true, .ptr 3 0), (8, true, .bool op), (9, true, .bool be), (10, true, .fn (.func 179) [] [.ptr 0 0, .ptr 4 0, .ptr 3 0]), (21, true, .int .i64 ((pre ++ r).length : Nat)), (22, true, .int .i64 pre.length)]
      [.mem 9 [.str (pre ++ r)], .grow 0 1 9, .grow acc.length 1 9, .mem 51 [.sl 1 (encS acc) (some 2)], .mem 3 [.int .i64 a]] := by
  have hT : TabOk cfg (ctab [(179, takeC)]) := ctab_ok (ctab_cons c179 ctab_nil); intro r
  induction r with
  | nil =>
    intro pre a acc op be hl ha hc
    refine t157b hT (ifP_intro (fun c => ?_) fun _ => ifP_intro (fun o => ?_) fun o => ?_)
    · simp at c
    · subst o; rfl
    · subst o
      refine ⟨acc, a, pre.length, ⟨rfl, rfl, rfl, rfl, rfl, rfl, rfl, rfl, rfl, rfl⟩, rfl, rfl, rfl, ha, by simp, hl, by omega, by simp, ?_⟩
      rw [take_pre]
      have e : ∀ o, splG sep (pre.drop a) o be [] = keepP (pre.drop a) := fun _ => rfl
      rw [e]
      refine ifP_intro (fun c => ?_) fun c => ?_
      · rw [encS_len] at c; simp only [gt_iff_lt, decide_eq_true_eq] at c; unfold splitEnd opnG
        rw [if_neg (by simp), if_pos (by omega)]; rfl
      · rw [encS_len] at c; simp only [gt_iff_lt, decide_eq_false_iff_not] at c; unfold splitEnd opnG
        rw [if_neg (by simp), if_neg (by omega), stripss_encS]; rfl
  | cons x r ih =>
    intro pre a acc op be hl ha hc
    have hlen : pre.length ≤ lim := by simp at hl; omega
    have next : ∀ op' be', opnG op be (x :: r) = opnG op' be' r → splG sep (pre.drop a) op be (x :: r) = splG sep (pre.drop a ++ [x]) op' be' r →
      ToEnd cfg 157 (bodyOf Tryz.f157) (RetIs Tryz.prog Tryz.f157 (ansV (splitEnd (opnG op be (x :: r)) (acc ++ splG sep (pre.drop a) op be (x :: r))))) [.code [0, 1, 0, 1, 1, 1, 1, 1], .block 0, .code [1, 1, 1, 1, 1, 1]] .normal
      [(1, true, .int .u8 (sep.toNat : Nat)), (2, true, .ptr 0 0), (6, true, .ptr 3 0), (8, true, .bool op'), (9, true, .bool be'), (10, true, .fn (.func 179) [] [.ptr 0 0, .ptr 4 0, .ptr 3 0]), (21, true, .int .i64 ((pre ++ x :: r).length : Nat)), (22, true, .int .i64 (IntKind.wrap .i64 ((pre.length : Int) + 1)))]
      [.mem 9 [.str (pre ++ x :: r)], .grow 0 1 9, .grow acc.length 1 9, .mem 51 [.sl 1 (encS acc) (some 2)], .mem 3 [.int .i64 a]] := fun op' be' h1 h2 => by
      rw [h1, h2, wrap_n hlen]
      have := ih (pre ++ [x]) a acc op' be' (by simpa using hl) (by simp; omega) (by simp; omega)
      rw [drop_snoc x ha] at this; simpa using this
    refine t157b hT (ifP_intro (fun _ => ?_) fun c => ?_)
    · rw [at_pre]
      refine gAnd_intro (inR_nat (by simp)) (ifP_intro (fun b => ?_) fun b => ?_)
      · subst b
        exact next op false (by simp [opnG]) (by simp [splG])
      · subst b
        have hf : ∀ {P : Prop}, (false = true) → P := fun h => by cases h
        have oth : x ≠ 34 → (¬ (op = true ∧ x = 92)) → (¬ (x = sep ∧ op = false)) → _ := fun hx hn hs => next op false (by rw [opnG, if_neg (by simp), if_neg hn, if_neg hx]) (by rw [splG, if_neg (by simp), if_neg hn, if_neg hx, if_neg hs])
        have quo : x = 34 → (¬ (op = true ∧ x = 92)) → _ := fun hx hn => next (!op) false (by rw [opnG, if_neg (by simp), if_neg hn, if_pos hx]) (by rw [splG, if_neg (by simp), if_neg hn, if_pos hx])
        refine ifP_intro (fun o => ?_) fun o => ?_
        · subst o
          refine ifP_intro (fun d => ?_) fun d => ?_
          · have hx : x = 92 := ueq 92 rfl d
            exact next true true (by rw [opnG, if_neg (by simp), if_pos ⟨rfl, hx⟩]) (by rw [splG, if_neg (by simp), if_pos ⟨rfl, hx⟩])
          · have hx : x ≠ 92 := une 92 rfl d
            refine ifP_intro (fun e => ?_) fun e => ?_
            · exact quo (ueq 34 rfl e) (fun h => hx h.2)
            · exact ifP_intro (fun _ => ifP_intro (fun h => by cases h) fun _ => oth (une 34 rfl e) (fun h => hx h.2) (fun h => by cases h.2)) fun _ => oth (une 34 rfl e) (fun h => hx h.2) (fun h => by cases h.2)
        · subst o
          refine ifP_intro (fun e => quo (ueq 34 rfl e) (fun h => by cases h.1)) fun e => ?_
          refine ifP_intro (fun g => ifP_intro (fun _ => ?_) fun h => by cases h) fun g => oth (une 34 rfl e) (fun h => by cases h.1) (fun h => une sep rfl g h.1)
          have hx : x = sep := ueq sep rfl g
          refine ⟨acc, a, pre.length, ⟨rfl, rfl, rfl, rfl, rfl, rfl, rfl, rfl, rfl, rfl⟩, rfl, rfl, rfl, ha, by simp, hl, hc, rfl, ?_⟩
          rw [take_pre, wrap_n hlen]
          have := ih (pre ++ [x]) (pre.length + 1) (acc ++ keepP (pre.drop a)) false false (by simpa using hl) (by simp) (by have := keepP_len (pre.drop a); simp; omega)
          have e1 : opnG false false (x :: r) = opnG false false r := by rw [opnG, if_neg (by simp), if_neg (by simp), if_neg (une 34 rfl e)]
          have e2 : splG sep (pre.drop a) false false (x :: r) = keepP (pre.drop a) ++ splG sep [] false false r := by rw [splG, if_neg (by simp), if_neg (by simp), if_neg (une 34 rfl e), if_pos ⟨hx, rfl⟩]
          have e3 : (pre ++ [x]).drop (pre.length + 1) = [] := List.drop_eq_nil_of_le (by simp)
          rw [e3] at this; rw [e1, e2]; simpa using this
    · simp at c; omega
theorem c157 : COk cfg 157 splitC := by
  refine cok_pure pf157 fun vs h K ht => ?_
  obtain ⟨s, sep, hl, h34, h92, rfl, hk⟩ := ht
  refine ⟨_, hk, t157a (ctab_ok (ctab_cons c179 ctab_nil)) (ifP_intro (fun c => absurd (ueq 34 rfl c) h34) fun _ => ifP_intro (fun c => absurd (ueq 92 rfl c) h92) fun _ => ?_)⟩
  exact loop157 h34 h92 s [] 0 [] false false hl (Nat.le_refl _) (Nat.le_refl _)
def bl (l : List Bool) : List AV := l.map AV.bool
def cellsQ (D : List Bool) (k : Nat) : List AV := bl D ++ List.replicate k (AV.bool false)
def bls (l : List Bool) : List (List AV) := l.map fun b => [AV.bool b]
theorem cellsQ_len (D : List Bool) (k : Nat) : (cellsQ D k).length = D.length + k := by simp [cellsQ, bl]
theorem cellsQ_set (D : List Bool) (k : Nat) {n : Nat} (h : n = D.length) : splice (cellsQ D (k + 1)) n [ofConst (Value.bool true)] = cellsQ (D ++ [true]) k := by
  unfold cellsQ
  rw [List.replicate_succ, splice_at (by rw [h]; simp [bl])]
  simp [bl, ofConst]
theorem cellsQ_keep (D : List Bool) (k : Nat) : cellsQ D (k + 1) = cellsQ (D ++ [false]) k := by
  unfold cellsQ; rw [List.replicate_succ]; simp [bl]
theorem strip_bools (b0 : Blk) (t : TypeId) (D : List Bool) {n : Nat} (hn : n = D.length) : stripR1 0 [b0, .mem t (cellsQ D 0)] (.osl 1 0 n 1) = .sl 1 (bls D) none := by
  subst hn
  have e : cellsQ D 0 = bl D := by simp [cellsQ]
  have e2 : List.take D.length (List.drop 0 (bl D)) = bl D := by rw [List.drop_zero, List.take_of_length_le (by simp [bl])]
  have e3 : (bl D).all atomV = true := by
    rw [List.all_eq_true]; intro x hx; obtain ⟨b, _, rfl⟩ := List.mem_map.1 hx; rfl
  show outS [b0, .mem t (cellsQ D 0)] 1 0 D.length 1 = _; unfold outS; rw [e]
  show (bif Nat.beq 1 1 && (List.take D.length (List.drop 0 (bl D))).all atomV then AV.sl 1 ((List.take D.length (List.drop 0 (bl D))).map fun c => [c]) none else AV.top) = _
  rw [e2, e3]; simp [bl, bls]
def quoV (D : List Bool) (o : Bool) : AV := .tup [.sl 1 (bls D) none, .bool (!o)]
theorem loop181 : ∀ (n : Nat) (r : List UInt8), r.length ≤ n → ∀ (pre : List UInt8) (D : List Bool), (pre ++ r).length ≤ lim → D.length = pre.length →
    ToEnd cfg 181 (bodyOf Tryz.f181) (RetIs Tryz.prog Tryz.f181 (quoV (D ++ quoG false false r) (opnG false false r))) [.code [0, 0, 1, 1, 1], .block 0, .code [1, 1, 1, 1]] .normal
      [(0, true, .str (pre ++ r)), (4, true, .osl 1 0 (pre ++ r).length 1), (5, true, .int .i64 pre.length)] [.grow 0 1 4, .mem 4 (cellsQ D r.length)] ∧
    ToEnd cfg 181 (bodyOf Tryz.f181) (RetIs Tryz.prog Tryz.f181 (quoV (D ++ quoG true false r) (opnG true false r))) [.code [0, 0, 1, 1, 1, 0, 1, 0, 0, 0, 1, 1, 1], .block 2, .code [1, 1, 1, 1, 0, 1, 0, 0, 0, 1, 1, 1], .block 1, .loop [0, 0, 1, 1, 1] 2, .block 0, .code [1, 1, 1, 1]] .normal
      [(0, true, .str (pre ++ r)), (4, true, .osl 1 0 (pre ++ r).length 1), (5, true, .int .i64 pre.length)] [.grow 0 1 4, .mem 4 (cellsQ D r.length)] := by
  have hT := ctab_ok (C := cfg) ctab_nil; intro n
  induction n with
  | zero =>
    intro r hr pre D hl hD
    obtain rfl : r = [] := List.eq_nil_of_length_eq_zero (by omega)
    refine ⟨t181b hT (ifP_intro (fun c => ?_) fun _ => ?_), t181c hT (ifP_intro (fun c => ?_) fun _ => ifP_intro (fun _ => ?_) fun c => ?_)⟩
    · simp at c
    · rw [List.length_nil, strip_bools _ _ _ (by simp [hD])]; simp [quoV, quoG, opnG]
    · simp at c
    · rw [List.length_nil, strip_bools _ _ _ (by simp [hD])]; simp [quoV, quoG, opnG]
    · simp at c
  | succ n ih =>
    intro r hr pre D hl hD
    cases r with
    | nil => exact ih [] (by simp) pre D hl hD
    | cons x r =>
      have hlen : pre.length ≤ lim := by simp at hl; omega
      have hr' : r.length ≤ n := by simpa using hr
      have hin : inR (pre.length : Int) (pre ++ x :: r).length = true := inR_nat (by simp)
      have hin' : (inR (pre.length : Int) (pre ++ x :: r).length && true && true) = true := by rw [hin]; rfl
      have hb : Nat.ble (0 + Int.toNat (pre.length : Int) * 1 + 1) (cellsQ D (x :: r).length).length = true := Nat.ble_eq_true_of_le (by rw [cellsQ_len, hD]; simp)
      have hi : 0 + Int.toNat (pre.length : Int) * 1 = D.length := by rw [hD]; simp
      have hset : splice (cellsQ D (x :: r).length) (0 + Int.toNat (pre.length : Int) * 1) [ofConst (Value.bool true)] = cellsQ (D ++ [true]) r.length := cellsQ_set D r.length hi
      have nextO := fun (b : Bool) => (ih r hr' (pre ++ [x]) (D ++ [b]) (by simpa using hl) (by simp [hD])).1
      have nextI := (ih r hr' (pre ++ [x]) (D ++ [true]) (by simpa using hl) (by simp [hD])).2
      constructor
      · refine t181b hT (ifP_intro (fun _ => gAnd_intro hin ?_) fun c => ?_)
        · rw [at_pre]
          refine ifP_intro (fun b => ?_) fun b => gAnd_intro hin' (gAnd_intro hb ?_)
          · have hx : x ≠ 34 := unq 34 rfl b
            rw [wrap_n hlen, show (x :: r).length = r.length + 1 from rfl, cellsQ_keep]
            have e1 : quoG false false (x :: r) = false :: quoG false false r := by rw [quoG, if_neg (by simp), if_neg (by simp), if_neg hx]
            have e2 : opnG false false (x :: r) = opnG false false r := by rw [opnG, if_neg (by simp), if_neg (by simp), if_neg hx]
            rw [e1, e2]; simpa using nextO false
          · have hx : x = 34 := unq' 34 rfl b; rw [hset, wrap_n hlen]
            have e1 : quoG false false (x :: r) = true :: quoG true false r := by rw [quoG, if_neg (by simp), if_neg (by simp), if_pos hx]; rfl
            have e2 : opnG false false (x :: r) = opnG true false r := by rw [opnG, if_neg (by simp), if_neg (by simp), if_pos hx]; rfl
            rw [e1, e2]; simpa using nextI
        · simp at c; omega
      · refine t181c hT (ifP_intro (fun _ => gAnd_intro hin ?_) fun c => ?_)
        · rw [at_pre]
          refine ifP_intro (fun b => gAnd_intro hin' (gAnd_intro hb (gAnd_intro hin (ifP_intro (fun d => ifP_intro (fun e => ?_) fun e => ?_) fun d => ?_)))) fun b => ifP_intro (fun c => ?_) fun c => gAnd_intro hin' (gAnd_intro hb ?_)
          · have hx : x = 92 := ueq 92 rfl d; have h34 : x ≠ 34 := unq 34 rfl b; rw [wrap_n hlen] at e ⊢
            cases r with
            | nil => simp at e
            | cons y r =>
              have hw : ((pre.length + 1 : Nat) : Int) = ((pre ++ [x]).length : Nat) := by simp
              have hi2 : 0 + Int.toNat ((pre.length + 1 : Nat) : Int) * 1 = (D ++ [true]).length := by simp [hD]
              have h2l : pre.length + 1 ≤ lim := by simp at hl; omega
              rw [hset]
              refine gAnd_intro (by rw [inR_nat (by simp)]; rfl) (gAnd_intro (Nat.ble_eq_true_of_le (by rw [cellsQ_len]; simp [hD])) ?_)
              rw [show (y :: r).length = r.length + 1 from rfl, cellsQ_set _ _ hi2, wrap_n h2l]
              have := (ih r (by simp at hr'; omega) (pre ++ [x, y]) (D ++ [true, true]) (by simpa using hl) (by simp [hD])).2
              have e1 : quoG true false (x :: y :: r) = true :: true :: quoG true false r := by rw [quoG, if_neg (by simp), if_pos ⟨rfl, hx⟩, quoG, if_pos rfl]
              have e2 : opnG true false (x :: y :: r) = opnG true false r := by rw [opnG, if_neg (by simp), if_pos ⟨rfl, hx⟩, opnG, if_pos rfl]
              have e3 : (((pre ++ [x, y]).length : Nat) : Int) = ((pre.length + 1 + 1 : Nat) : Int) := by simp; omega
              rw [e3] at this; rw [e1, e2]; simpa using this
          · have hx : x = 92 := ueq 92 rfl d; rw [wrap_n hlen] at e ⊢
            cases r with
            | cons y r => simp at e; omega
            | nil =>
              rw [hset]
              have e1 : quoG true false [x] = [true] := by rw [hx]; rfl
              have e2 : opnG true false [x] = opnG true false [] := by rw [hx]; rfl
              rw [e1, e2]; have := nextI; simpa [quoG] using this
          · have hx : x ≠ 92 := une 92 rfl d; have h34 : x ≠ 34 := unq 34 rfl b; rw [hset, wrap_n hlen]
            have e1 : quoG true false (x :: r) = true :: quoG true false r := by rw [quoG, if_neg (by simp), if_neg (fun h => hx h.2), if_neg h34]
            have e2 : opnG true false (x :: r) = opnG true false r := by rw [opnG, if_neg (by simp), if_neg (fun h => hx h.2), if_neg h34]
            rw [e1, e2]; simpa using nextI
          · simp at c; omega
          · have hx : x = 34 := unq' 34 rfl b; rw [hset, wrap_n hlen]
            have e1 : quoG true false (x :: r) = true :: quoG false false r := by rw [quoG, if_neg (by simp), if_neg (by rw [hx]; simp), if_pos hx]; rfl
            have e2 : opnG true false (x :: r) = opnG false false r := by rw [opnG, if_neg (by simp), if_neg (by rw [hx]; simp), if_pos hx]; rfl
            rw [e1, e2]; simpa using nextO true
        · simp at c; omega
theorem c181 : COk cfg 181 quotC := by
  refine cok_pure pf181 fun vs h K ht => ?_
  obtain ⟨s, hl, rfl, hk⟩ := ht; refine ⟨_, hk, t181a (ctab_ok ctab_nil) (gAnd_intro ?_ ?_)⟩
  · rw [decide_eq_true rfl, decide_eq_true (by unfold lim at hl; omega), decide_eq_true (by unfold lim at hl; omega)]; rfl
  · exact (loop181 s.length s (Nat.le_refl _) [] [] hl rfl).1
theorem getE_bls (D r : List Bool) (b : Bool) {n : Nat} (h : n = D.length) : getE (bls (D ++ b :: r)) (n : Int) = [.bool b] := by
  subst h; unfold getE bls; simp
theorem low_bls (n : Nat) (l : List Bool) : lowVss n (bls l) = true := lowss_pure n _ fun x hx => by
  obtain ⟨b, _, rfl⟩ := List.mem_map.1 hx; rfl
theorem loop159e {sep : UInt8} {s : List UInt8} (hs : s.length ≤ lim) (e6 : List (List AV)) (k a : Int) (acc : List (List UInt8)) (hk : (s.length : Int) < k) :
    ToEnd cfg 159 (bodyOf Tryz.f159) (RetIs Tryz.prog Tryz.f159 (ansV (splitEnd false acc))) [.code [0, 1, 0, 1, 1, 1, 1, 1, 1], .block 0, .code [1, 1, 1, 1, 1, 1, 1]] .normal
      [(0, true, .str s), (1, true, .int .u8 (sep.toNat : Nat)), (6, true, .sl 1 e6 none), (8, true, .sl 1 (encS acc) (some 1)), (9, true, .int .i64 a), (10, true, .int .i64 k)] [.grow 0 1 9, .grow acc.length 1 9] := by
  have hT : TabOk cfg (ctab [(181, quotC), (127, trimC)]) := ctab_ok (ctab_cons c181 (ctab_cons c127 ctab_nil))
  refine t159b hT (ifP_intro (fun c => ?_) fun _ => ifP_intro (fun c => ?_) fun c => ?_)
  · simp at c; omega
  · rw [encS_len] at c; simp only [gt_iff_lt, decide_eq_true_eq] at c; unfold splitEnd
    rw [if_neg (by simp), if_pos (by omega)]; rfl
  · rw [encS_len] at c; simp only [gt_iff_lt, decide_eq_false_iff_not] at c; unfold splitEnd
    rw [if_neg (by simp), if_neg (by omega), stripss_encS]; rfl
theorem loop159 {sep : UInt8} : ∀ (r pre : List UInt8) (fr D : List Bool) (a : Nat) (acc : List (List UInt8)), (pre ++ r).length ≤ lim → D.length = pre.length → fr.length = r.length → a ≤ pre.length → acc.length ≤ pre.length →
    ToEnd cfg 159 (bodyOf Tryz.f159) (RetIs Tryz.prog Tryz.f159 (ansV (splitEnd false (acc ++ refG sep (pre.drop a) r fr)))) [.code [0, 1, 0, 1, 1, 1, 1, 1, 1], .block 0, .code [1, 1, 1, 1, 1, 1, 1]] .normal
      [(0, true, .str (pre ++ r)), (1, true, .int .u8 (sep.toNat : Nat)), (6, true, .sl 1 (bls (D ++ fr)) none), (8, true, .sl 1 (encS acc) (some 1)), (9, true, .int .i64 a), (10, true, .int .i64 pre.length)] [.grow 0 1 9, .grow acc.length 1 9] := by
  have hT : TabOk cfg (ctab [(181, quotC), (127, trimC)]) := ctab_ok (ctab_cons c181 (ctab_cons c127 ctab_nil)); intro r
  induction r with
  | nil =>
    intro pre fr D a acc hl hD hf ha hc
    have hlt : ((pre.drop a).length : Nat) ≤ 10000000 := by unfold lim at hl; simp at hl ⊢; omega
    have hcut : cutL (pre ++ []) (some (a : Int)) (some (pre.length : Int)) = pre.drop a := by simp [cutL]
    have hlen : pre.length ≤ lim := by simpa using hl
    refine t159b hT (ifP_intro (fun _ => ifP_intro (fun d => ?_) fun _ => gAnd_intro ?_ ⟨pre.drop a, hlt, by rw [hcut], ifP_intro (fun q => gAnd_intro ?_ (gAnd_intro ?_ ?_)) fun q => gAnd_intro ?_ ?_⟩) fun c => ?_)
    · simp at d
    · simp [cutOb]; omega
    · rw [encS_len, tag_ok rfl, decide_eq_true (by unfold lim at hlen; omega)]; rfl
    · rw [low_bls, encS_one, low_encS]; rfl
    · rw [encS_one, encS_len, wrap_n hlen]
      have := loop159e (sep := sep) hl (bls (D ++ fr)) ((pre.length + 1 : Nat) : Int) ((pre.length + 1 : Nat) : Int) (acc ++ [trB (pre.drop a)]) (by simp; omega)
      have e : refG sep (pre.drop a) [] fr = [trB (pre.drop a)] := keepP_some q; rw [e]; simpa using this
    · rw [low_bls, low_encS]; rfl
    · rw [wrap_n hlen]
      have := loop159e (sep := sep) hl (bls (D ++ fr)) ((pre.length + 1 : Nat) : Int) ((pre.length + 1 : Nat) : Int) acc (by simp; omega)
      have e : refG sep (pre.drop a) [] fr = [] := keepP_none q; rw [e, List.append_nil acc]; exact this
    · simp at c
  | cons x r ih =>
    intro pre fr D a acc hl hD hf ha hc
    obtain ⟨f, fr, rfl⟩ : ∃ f fr', fr = f :: fr' := by cases fr with | nil => simp at hf | cons f fr => exact ⟨f, fr, rfl⟩
    have hlen : pre.length ≤ lim := by simp at hl; omega
    have hlt : ((pre.drop a).length : Nat) ≤ 10000000 := by unfold lim at hlen; simp; omega
    have hcut : cutL (pre ++ x :: r) (some (a : Int)) (some (pre.length : Int)) = pre.drop a := by simp [cutL]
    have hin : inR (pre.length : Int) (pre ++ x :: r).length = true := inR_nat (by simp)
    have low : (lowVss 2 (bls (D ++ f :: fr)) && true && (lowVss 2 (encS acc) && true && true) && true) = true := by rw [low_bls, low_encS]; rfl
    have go : (x ≠ sep ∨ f = true) → ToEnd cfg 159 (bodyOf Tryz.f159) (RetIs Tryz.prog Tryz.f159 (ansV (splitEnd false (acc ++ refG sep (pre.drop a) (x :: r) (f :: fr))))) [.code [0, 1, 0, 1, 1, 1, 1, 1, 1], .block 0, .code [1, 1, 1, 1, 1, 1, 1]] .normal
      [(0, true, .str (pre ++ x :: r)), (1, true, .int .u8 (sep.toNat : Nat)), (6, true, .sl 1 (bls (D ++ f :: fr)) none), (8, true, .sl 1 (encS acc) (some 1)), (9, true, .int .i64 a), (10, true, .int .i64 (IntKind.wrap .i64 ((pre.length : Int) + 1)))] [.grow 0 1 9, .grow acc.length 1 9] := fun h => by
      rw [refG, if_pos h, wrap_n hlen]
      have := ih (pre ++ [x]) fr (D ++ [f]) a acc (by simpa using hl) (by simp [hD]) (by simpa using hf) (by simp; omega) (by simp; omega)
      rw [drop_snoc x ha] at this; simpa using this
    refine t159b hT (ifP_intro (fun _ => ifP_intro (fun _ => gAnd_intro hin ?_) fun d => ?_) fun c => ?_)
    · rw [at_pre]
      refine ifP_intro (fun b => gAnd_intro low (go (.inl (unq sep rfl b)))) fun b => gAnd_intro ?_ ⟨f, getE_bls _ _ _ hD.symm, ifP_intro (fun c => gAnd_intro low (go (.inr c))) fun c => gAnd_intro ?_ ⟨pre.drop a, hlt, by rw [hcut], ifP_intro (fun q => gAnd_intro ?_ (gAnd_intro ?_ ?_)) fun q => gAnd_intro low ?_⟩⟩
      · rw [inR_nat (by simp [bls, hD])]; rfl
      · simp [cutOb]; omega
      · rw [encS_len, tag_ok rfl, decide_eq_true (by unfold lim at hlen; omega)]; rfl
      · rw [low_bls, encS_one, low_encS]; rfl
      · rw [encS_one, encS_len, wrap_n hlen]; have hx : x = sep := unq' sep rfl b
        rw [refG, if_neg (by rintro (h | h); exact h hx; rw [c] at h; cases h), keepP_some q]
        have := ih (pre ++ [x]) fr (D ++ [f]) (pre.length + 1) (acc ++ [trB (pre.drop a)]) (by simpa using hl) (by simp [hD]) (by simpa using hf) (by simp) (by simp; omega)
        have e3 : (pre ++ [x]).drop (pre.length + 1) = [] := List.drop_eq_nil_of_le (by simp)
        rw [e3] at this; simpa using this
      · rw [wrap_n hlen]; have hx : x = sep := unq' sep rfl b
        rw [refG, if_neg (by rintro (h | h); exact h hx; rw [c] at h; cases h), keepP_none q, List.nil_append]
        have := ih (pre ++ [x]) fr (D ++ [f]) (pre.length + 1) acc (by simpa using hl) (by simp [hD]) (by simpa using hf) (by simp) (by simp; omega)
        have e3 : (pre ++ [x]).drop (pre.length + 1) = [] := List.drop_eq_nil_of_le (by simp)
        rw [e3] at this; simpa using this
    · simp at d; omega
    · simp at c; omega
theorem c159 : COk cfg 159 splitC := by
  have hT : TabOk cfg (ctab [(181, quotC), (127, trimC)]) := ctab_ok (ctab_cons c181 (ctab_cons c127 ctab_nil))
  refine cok_pure pf159 fun vs h K ht => ?_
  obtain ⟨s, sep, hl, h34, h92, rfl, hk⟩ := ht
  refine ⟨_, hk, t159a hT (ifP_intro (fun c => absurd (ueq 34 rfl c) h34) fun _ => ifP_intro (fun c => absurd (ueq 92 rfl c) h92) fun _ => ⟨s, hl, rfl, ifP_intro (fun o => ?_) fun o => ?_⟩)⟩
  · have ho : opnG false false s = true := by simpa using o
    unfold splitS; rw [if_pos ho]; rfl
  · have ho : opnG false false s = false := by simpa using o
    have := loop159 (sep := sep) s [] (quoG false false s) [] 0 [] hl rfl (quoG_len _ _ _) (Nat.le_refl _) (Nat.le_refl _)
    have e : refG sep ([].drop 0) s (quoG false false s) = splG sep [] false false s := refG_eq h34 h92 s [] false false (by simp)
    rw [e] at this
    have e2 : splitS sep s = splitEnd false ([] ++ splG sep [] false false s) := by
      unfold splitS splitEnd; rw [ho]; rfl
    rw [e2]; exact this
end Go.Proofs.YtnncfdlpogjlkaaGreatDoor
end
section
namespace Go.Proofs.YtnncfdlpogjlkaaGreatDoor
open Go.Ai Go
set_option maxRecDepth 100000
open Go.IntKind (wrap i64 u8)
open Go.Ai.AV (int str sl tup bool agg ptr)
open Go.Ai.Blk (mem grow)
open Go.Ai.Fm (code block loop)
open Go.Ai.XT (normal)
open List (length)
open Prod (fst snd)
open UInt8 (toNat)
open Tryz (prog f35 f41 f48 f51 f78 f85 f121 f122 f131)
theorem t122a {v : AV} {e : List (List AV)} {sz : Nat} (hT : TabOk cfg (ctab [(157, splitC)])) (H : ToEnd cfg 122 (bodyOf f122) (RetIs prog f122 v) [code [0, 1, 0, 1], block 0, code [1, 1]] normal [(2, true, sl 1 [] (some 0)), (8, true, sl sz e none), (9, true, int i64 (↑(length e) : Int)), (10, true, int i64 0)] [grow 0 1 9]) : ToEnd cfg 122 (bodyOf f122) (RetIs prog f122 v) ([.code []]) .normal ([(0, true, .sl sz e none)]) ([]) := by
  exact unr_ok (pl := ⟨[[0, 1, 0, 1]], [([0, 0, 0, 1, 1, 0, 0, 1, 0, 1], 0, [.str])]⟩) hT 100000 _ _ _ _ (unr_use H (by kernel_rfl))
theorem t122b {v : AV} {e : List (List AV)} {sz : Nat} {e2 : List (List AV)} {i9 : Int} {i10 : Int} {g0 : Nat} (hT : TabOk cfg (ctab [(157, splitC)])) (H : ifP (decide (i10 < i9)) (gAnd (inR i10 (length e) && Nat.beq sz 1 && Nat.ble 1 sz) (∃ (s1 : List UInt8), getE e i10 = [str s1] ∧ ∃ (s2 : List UInt8) (sep3 : UInt8), length s2 ≤ 10000000 ∧ sep3 ≠ 34 ∧ sep3 ≠ 92 ∧ [str s1, int u8 44] = [str s2, int u8 (↑(toNat sep3) : Int)] ∧ ifP (snd (splitS sep3 s2) != 0) (tup [sl 1 [] none, int i64 4] = v) (gAnd (tagOk [grow g0 1 9] (length e2) 1 9 (some 0) && true && true && true && decide ((length e2 + length (encS (fst (splitS sep3 s2)))) * 16 ≤ 140737488355328) && true && true) (gAnd (lowVss 1 (e2 ++ encS (fst (splitS sep3 s2))) && true && (lowVss 1 e && true && true) && true) (ToEnd cfg 122 (bodyOf f122) (RetIs prog f122 v) [code [0, 1, 0, 1], block 0, code [1, 1]] normal [(2, true, sl 1 (e2 ++ encS (fst (splitS sep3 s2))) (some 0)), (8, true, sl sz e none), (9, true, int i64 i9), (10, true, int i64 (wrap i64 (i10 + 1)))] [grow (length e2 + length (encS (fst (splitS sep3 s2)))) 1 9]))))) (ifP ((↑(length e2) : Int) == 0) (tup [sl 1 [] none, int i64 4] = v) (tup [sl 1 (stripss 0 [grow g0 1 9] e2) none, int i64 0] = v))) : ToEnd cfg 122 (bodyOf f122) (RetIs prog f122 v) ([.code [0, 1, 0, 1], block 0, code [1, 1]]) .normal ([(2, true, sl 1 e2 (some 0)), (8, true, sl sz e none), (9, true, int i64 i9), (10, true, int i64 i10)]) ([grow g0 1 9]) := by
  exact ends_round (pl := ⟨[[0, 1, 0, 1]], [([0, 0, 0, 1, 1, 0, 0, 1, 0, 1], 0, [.str])]⟩) hT 100000 (by kernel_rfl) (unr_use H (by kernel_rfl))
theorem t121a {v : AV} {e : List (List AV)} {sz : Nat} (hT : TabOk cfg (ctab [(122, piecesC), (155, trimSC), (88, Ai.atoiC)])) (H : ∃ (l1 : List (List UInt8)) (sz2 : Nat), (length l1 ≤ 10000000 ∧ ∀ (s3 : List UInt8), s3 ∈ l1 → length s3 ≤ 10000000) ∧ szOk sz2 1 (length l1) ∧ [sl sz (stripss 0 [] e) none] = [sl sz2 (encS l1) none] ∧ ifP (snd (pcsE l1) != 0) (tup [int i64 0, int i64 (snd (pcsE l1))] = v) (ToEnd cfg 121 (bodyOf f121) (RetIs prog f121 v) [code [0, 1, 0, 1, 1, 1, 1], block 0, code [1, 1, 1, 1, 1]] normal [(6, true, sl 1 [] (some 0)), (21, true, sl 1 (encS (fst (pcsE l1))) none), (22, true, int i64 (↑(length (encS (fst (pcsE l1)))) : Int)), (23, true, int i64 0)] [grow 0 1 3])) : ToEnd cfg 121 (bodyOf f121) (RetIs prog f121 v) ([.code []]) .normal ([(0, true, .sl sz e none)]) ([]) := by
  exact unr_ok (pl := ⟨[[0, 1, 0, 1, 1, 1, 1], [0, 1, 0, 1, 1, 1, 1, 1]], [([0, 0, 0, 1, 1, 0, 0, 1, 0, 1, 1, 1, 1], 0, [.str]), ([0, 0, 0, 1, 1, 0, 0, 1, 0, 1, 1, 1, 1, 1], 0, [.int .i64]), ([0, 1, 0, 0, 1, 1, 0, 0, 1, 0, 1, 1, 1, 1, 1], 2, [.int .i64]), ([0, 1, 1, 1, 1, 1, 1], 1, [.int .i64])]⟩) hT 100000 _ _ _ _ (unr_use H (by kernel_rfl))
theorem t121b {v : AV}   {e6 : List (List AV)} {e21 : List (List AV)} {i22 : Int} {i23 : Int} {g0 : Nat} (hT : TabOk cfg (ctab [(122, piecesC), (155, trimSC), (88, Ai.atoiC)])) (H : ifP (decide (i23 < i22)) (gAnd (inR i23 (length e21) && true && true) (∃ (s1 : List UInt8), getE e21 i23 = [str s1] ∧ ifP (decide ((↑(length s1) : Int) > 18)) (tup [int i64 0, int i64 4] = v) (∃ (s2 : List UInt8) (cs3 : List UInt8), length s2 ≤ 10000000 ∧ length cs3 ≤ 100 ∧ (List.all cs3 fun (b : UInt8) ↦ Nat.blt (toNat b) 128) = true ∧ [str s1, str [48, 49, 50, 51, 52, 53, 54, 55, 56, 57]] = [str s2, str cs3] ∧ ifP (!Lib.trimS s2 cs3 == []) (tup [int i64 0, int i64 4] = v) (∃ (s4 : List UInt8), length s4 ≤ 10000000 ∧ [str s1] = [str s4] ∧ gAnd (tagOk [grow g0 1 3, grow 1 1 3] (length e6) 1 3 (some 0) && true && true && true && decide ((length e6 + 1) * 8 ≤ 140737488355328) && true && true) (gAnd (lowVss 1 (e6 ++ [[int i64 (atoiV s4)]]) && true && (lowVss 1 e21 && true && true) && true) (ToEnd cfg 121 (bodyOf f121) (RetIs prog f121 v) [code [0, 1, 0, 1, 1, 1, 1], block 0, code [1, 1, 1, 1, 1]] normal [(6, true, sl 1 (e6 ++ [[int i64 (atoiV s4)]]) (some 0)), (21, true, sl 1 e21 none), (22, true, int i64 i22), (23, true, int i64 (wrap i64 (i23 + 1)))] [grow (length e6 + 1) 1 3])))))) (ToEnd cfg 121 (bodyOf f121) (RetIs prog f121 v) [code [0, 1, 0, 1, 1, 1, 1, 1], block 2, code [1, 1, 1, 1, 1, 1]] normal [(6, true, sl 1 e6 (some 0)), (45, true, sl 1 e6 (some 0)), (46, true, int i64 (↑(length e6) : Int)), (47, true, int i64 0)] [grow g0 1 3])) : ToEnd cfg 121 (bodyOf f121) (RetIs prog f121 v) ([.code [0, 1, 0, 1, 1, 1, 1], block 0, code [1, 1, 1, 1, 1]]) .normal ([(6, true, sl 1 e6 (some 0)), (21, true, sl 1 e21 none), (22, true, int i64 i22), (23, true, int i64 i23)]) ([grow g0 1 3]) := by
  exact ends_round (pl := ⟨[[0, 1, 0, 1, 1, 1, 1], [0, 1, 0, 1, 1, 1, 1, 1]], [([0, 0, 0, 1, 1, 0, 0, 1, 0, 1, 1, 1, 1], 0, [.str]), ([0, 0, 0, 1, 1, 0, 0, 1, 0, 1, 1, 1, 1, 1], 0, [.int .i64]), ([0, 1, 0, 0, 1, 1, 0, 0, 1, 0, 1, 1, 1, 1, 1], 2, [.int .i64]), ([0, 1, 1, 1, 1, 1, 1], 1, [.int .i64])]⟩) hT 100000 (by kernel_rfl) (unr_use H (by kernel_rfl))
theorem t121c {v : AV}   {e6 : List (List AV)}    {g0 : Nat} {i46 : Int} {i47 : Int} (hT : TabOk cfg (ctab [(122, piecesC), (155, trimSC), (88, Ai.atoiC)])) (H : ifP (decide (i47 < i46)) (gAnd (inR i47 (length e6) && true && true) (∃ (z1 : Int), getE e6 i47 = [int i64 z1] ∧ gAnd (inR 0 (length e6) && true && true) (∃ (z2 : Int), getE e6 0 = [int i64 z2] ∧ ifP (z1 != z2) (tup [int i64 0, int i64 8] = v) (gAnd (lowVss 1 e6 && true && (lowVss 1 e6 && true && true) && true) (ToEnd cfg 121 (bodyOf f121) (RetIs prog f121 v) [code [0, 1, 0, 1, 1, 1, 1, 1], block 2, code [1, 1, 1, 1, 1, 1]] normal [(6, true, sl 1 e6 (some 0)), (45, true, sl 1 e6 (some 0)), (46, true, int i64 i46), (47, true, int i64 (wrap i64 (i47 + 1)))] [grow g0 1 3]))))) (gAnd (inR 0 (length e6) && true && true) (∃ (z3 : Int), getE e6 0 = [int i64 z3] ∧ tup [int i64 z3, int i64 0] = v))) : ToEnd cfg 121 (bodyOf f121) (RetIs prog f121 v) ([.code [0, 1, 0, 1, 1, 1, 1, 1], block 2, code [1, 1, 1, 1, 1, 1]]) .normal ([(6, true, sl 1 e6 (some 0)), (45, true, sl 1 e6 (some 0)), (46, true, int i64 i46), (47, true, int i64 i47)]) ([grow g0 1 3]) := by
  exact ends_round (pl := ⟨[[0, 1, 0, 1, 1, 1, 1], [0, 1, 0, 1, 1, 1, 1, 1]], [([0, 0, 0, 1, 1, 0, 0, 1, 0, 1, 1, 1, 1], 0, [.str]), ([0, 0, 0, 1, 1, 0, 0, 1, 0, 1, 1, 1, 1, 1], 0, [.int .i64]), ([0, 1, 0, 0, 1, 1, 0, 0, 1, 0, 1, 1, 1, 1, 1], 2, [.int .i64]), ([0, 1, 1, 1, 1, 1, 1], 1, [.int .i64])]⟩) hT 100000 (by kernel_rfl) (unr_use H (by kernel_rfl))
theorem t131a {v : AV} {e : List (List AV)} {sz : Nat} {nm : List UInt8} (hT : TabOk cfg (ctab [(130, valuesC), (159, splitC)])) (H : ∃ (l1 : List Fld) (nm2 : List UInt8) (sz3 : Nat), okFs l1 ∧ szOk sz3 2 (length l1) ∧ length nm2 ≤ 10000000 ∧ [sl sz (stripss 0 [] e) none, str nm] = [sl sz3 (encFs l1) none, str nm2] ∧ ToEnd cfg 131 (bodyOf f131) (RetIs prog f131 v) [code [0, 1, 0, 1, 1, 1], block 0, code [1, 1, 1, 1]] normal [(6, true, sl 1 [] (some 1)), (7, true, sl 1 (encS (valuesOf l1 nm2)) none), (8, true, int i64 0)] [grow 0 1 9, grow 0 1 9]) : ToEnd cfg 131 (bodyOf f131) (RetIs prog f131 v) ([.code []]) .normal ([(0, true, .sl sz e none), (1, true, .str nm)]) ([]) := by
  exact unr_ok (pl := ⟨[[0, 1, 0, 1, 1, 1]], [([0, 0, 0, 1, 0, 0, 1, 0, 1, 1, 1], 2, [.str])]⟩) hT 100000 _ _ _ _ (unr_use H (by kernel_rfl))
theorem t131b {v : AV}    {e6 : List (List AV)} {e7 : List (List AV)} {i8 : Int} {g0 : Nat} {g1 : Nat} (hT : TabOk cfg (ctab [(130, valuesC), (159, splitC)])) (H : ifP (decide (i8 < (↑(length e7) : Int))) (gAnd (inR i8 (length e7) && true && true) (∃ (s1 : List UInt8), getE e7 i8 = [str s1] ∧ ∃ (s2 : List UInt8) (sep3 : UInt8), length s2 ≤ 10000000 ∧ sep3 ≠ 34 ∧ sep3 ≠ 92 ∧ [str s1, int u8 44] = [str s2, int u8 (↑(toNat sep3) : Int)] ∧ ifP (snd (splitS sep3 s2) != 0) (tup [sl 1 [] none, bool false] = v) (gAnd (tagOk [grow g0 1 9, grow g1 1 9] (length e6) 1 9 (some 1) && true && true && true && decide ((length e6 + length (encS (fst (splitS sep3 s2)))) * 16 ≤ 140737488355328) && true && true) (gAnd (lowVss 2 (e6 ++ encS (fst (splitS sep3 s2))) && true && (lowVss 2 e7 && true && true) && true) (ToEnd cfg 131 (bodyOf f131) (RetIs prog f131 v) [code [0, 1, 0, 1, 1, 1], block 0, code [1, 1, 1, 1]] normal [(6, true, sl 1 (e6 ++ encS (fst (splitS sep3 s2))) (some 1)), (7, true, sl 1 e7 none), (8, true, int i64 (wrap i64 (i8 + 1)))] [grow g0 1 9, grow (length e6 + length (encS (fst (splitS sep3 s2)))) 1 9]))))) (tup [sl 1 (stripss 0 [grow g0 1 9, grow g1 1 9] e6) none, bool (decide ((↑(length e6) : Int) > 0))] = v)) : ToEnd cfg 131 (bodyOf f131) (RetIs prog f131 v) ([.code [0, 1, 0, 1, 1, 1], block 0, code [1, 1, 1, 1]]) .normal ([(6, true, sl 1 e6 (some 1)), (7, true, sl 1 e7 none), (8, true, int i64 i8)]) ([grow g0 1 9, grow g1 1 9]) := by
  exact ends_round (pl := ⟨[[0, 1, 0, 1, 1, 1]], [([0, 0, 0, 1, 0, 0, 1, 0, 1, 1, 1], 2, [.str])]⟩) hT 100000 (by kernel_rfl) (unr_use H (by kernel_rfl))
theorem t78 {v : AV} {e : List (List AV)} {sz : Nat} {o : Int} (hT : TabOk cfg (ctab [(120, valuesC), (121, lengthC), (122, piecesC), (105, likeC)])) (H : ∃ (l1 : List Fld) (nm2 : List UInt8) (sz3 : Nat), okFs l1 ∧ szOk sz3 2 (length l1) ∧ length nm2 ≤ 10000000 ∧ [sl sz (stripss 0 [] e) none, str [99, 111, 110, 116, 101, 110, 116, 45, 108, 101, 110, 103, 116, 104]] = [sl sz3 (encFs l1) none, str nm2] ∧ ∃ (l6 : List Fld) (nm7 : List UInt8) (sz8 : Nat), okFs l6 ∧ szOk sz8 2 (length l6) ∧ length nm7 ≤ 10000000 ∧ [sl sz (stripss 0 [] e) none, str [116, 114, 97, 110, 115, 102, 101, 114, 45, 101, 110, 99, 111, 100, 105, 110, 103]] = [sl sz8 (encFs l6) none, str nm7] ∧ ifP (decide ((↑(length (encS (valuesOf l1 nm2))) : Int) > 0)) (ifP (decide ((↑(length (encS (valuesOf l6 nm7))) : Int) > 0)) (tup [agg [int i64 0, int i64 0], int i64 8] = v) (ifP (decide ((↑(length (encS (valuesOf l1 nm2))) : Int) > 0)) (∃ (l11 : List (List UInt8)) (sz12 : Nat), (length l11 ≤ 10000000 ∧ ∀ (s13 : List UInt8), s13 ∈ l11 → length s13 ≤ 10000000) ∧ szOk sz12 1 (length l11) ∧ [sl 1 (stripss 0 [] (encS (valuesOf l1 nm2))) none] = [sl sz12 (encS l11) none] ∧ ifP (snd (lenA l11) != 0) (tup [agg [int i64 0, int i64 0], int i64 (snd (lenA l11))] = v) (tup [agg [int i64 1, int i64 (fst (lenA l11))], int i64 0] = v)) (ifP (decide ((↑(length (encS (valuesOf l6 nm7))) : Int) > 0)) (∃ (l15 : List (List UInt8)) (sz16 : Nat), (length l15 ≤ 10000000 ∧ ∀ (s17 : List UInt8), s17 ∈ l15 → length s17 ≤ 10000000) ∧ szOk sz16 1 (length l15) ∧ [sl 1 (stripss 0 [] (encS (valuesOf l6 nm7))) none] = [sl sz16 (encS l15) none] ∧ ifP (snd (pcsE l15) != 0) (tup [agg [int i64 0, int i64 0], int i64 4] = v) (ifP ((↑(length (encS (fst (pcsE l15)))) : Int) != 1) (tup [agg [int i64 0, int i64 0], int i64 4] = v) (gAnd (inR 0 (length (encS (fst (pcsE l15)))) && true && true) (∃ (s19 : List UInt8), getE (encS (fst (pcsE l15))) 0 = [str s19] ∧ ∃ (a20 : List UInt8) (b21 : List UInt8), length a20 ≤ 10000000 ∧ length b21 ≤ 10000000 ∧ [str s19, str [99, 104, 117, 110, 107, 101, 100]] = [str a20, str b21] ∧ ifP (!lowS a20 == lowS b21) (tup [agg [int i64 0, int i64 0], int i64 4] = v) (tup [agg [int i64 2, int i64 0], int i64 0] = v))))) (tup [agg [int i64 o, int i64 0], int i64 0] = v)))) (ifP (decide ((↑(length (encS (valuesOf l1 nm2))) : Int) > 0)) (∃ (l22 : List (List UInt8)) (sz23 : Nat), (length l22 ≤ 10000000 ∧ ∀ (s24 : List UInt8), s24 ∈ l22 → length s24 ≤ 10000000) ∧ szOk sz23 1 (length l22) ∧ [sl 1 (stripss 0 [] (encS (valuesOf l1 nm2))) none] = [sl sz23 (encS l22) none] ∧ ifP (snd (lenA l22) != 0) (tup [agg [int i64 0, int i64 0], int i64 (snd (lenA l22))] = v) (tup [agg [int i64 1, int i64 (fst (lenA l22))], int i64 0] = v)) (ifP (decide ((↑(length (encS (valuesOf l6 nm7))) : Int) > 0)) (∃ (l26 : List (List UInt8)) (sz27 : Nat), (length l26 ≤ 10000000 ∧ ∀ (s28 : List UInt8), s28 ∈ l26 → length s28 ≤ 10000000) ∧ szOk sz27 1 (length l26) ∧ [sl 1 (stripss 0 [] (encS (valuesOf l6 nm7))) none] = [sl sz27 (encS l26) none] ∧ ifP (snd (pcsE l26) != 0) (tup [agg [int i64 0, int i64 0], int i64 4] = v) (ifP ((↑(length (encS (fst (pcsE l26)))) : Int) != 1) (tup [agg [int i64 0, int i64 0], int i64 4] = v) (gAnd (inR 0 (length (encS (fst (pcsE l26)))) && true && true) (∃ (s30 : List UInt8), getE (encS (fst (pcsE l26))) 0 = [str s30] ∧ ∃ (a31 : List UInt8) (b32 : List UInt8), length a31 ≤ 10000000 ∧ length b32 ≤ 10000000 ∧ [str s30, str [99, 104, 117, 110, 107, 101, 100]] = [str a31, str b32] ∧ ifP (!lowS a31 == lowS b32) (tup [agg [int i64 0, int i64 0], int i64 4] = v) (tup [agg [int i64 2, int i64 0], int i64 0] = v))))) (tup [agg [int i64 o, int i64 0], int i64 0] = v)))) : ToEnd cfg 78 (bodyOf f78) (RetIs prog f78 v) ([.code []]) .normal ([(0, true, .sl sz e none), (1, true, .int .i64 o)]) ([]) := by
  exact unr_ok (pl := ⟨[], [([0, 0, 1, 0, 1, 1, 1, 1, 1, 0, 0, 1, 1], 9, [.str])]⟩) hT 100000 _ _ _ _ (unr_use H (by kernel_rfl))
theorem t85a {v : AV} {e : List (List AV)} {sz : Nat} (hT : TabOk cfg (ctab [(130, valuesC), (131, piecesRC), (133, Ai.numC), (132, lowerC)])) (H : ∃ (l1 : List Fld) (nm2 : List UInt8) (sz3 : Nat), okFs l1 ∧ szOk sz3 2 (length l1) ∧ length nm2 ≤ 10000000 ∧ [sl sz (stripss 0 [] e) none, str [99, 111, 110, 116, 101, 110, 116, 45, 108, 101, 110, 103, 116, 104]] = [sl sz3 (encFs l1) none, str nm2] ∧ ∃ (l6 : List Fld) (nm7 : List UInt8) (sz8 : Nat), okFs l6 ∧ szOk sz8 2 (length l6) ∧ length nm7 ≤ 10000000 ∧ [sl sz (stripss 0 [] e) none, str [116, 114, 97, 110, 115, 102, 101, 114, 45, 101, 110, 99, 111, 100, 105, 110, 103]] = [sl sz8 (encFs l6) none, str nm7] ∧ ifP ((↑(length (encS (valuesOf l1 nm2))) : Int) == 0) (ifP ((↑(length (encS (valuesOf l6 nm7))) : Int) == 0) (tup [agg [int i64 0, int i64 0], bool false, int i64 0] = v) (ifP (decide ((↑(length (encS (valuesOf l1 nm2))) : Int) > 0)) (ifP (decide ((↑(length (encS (valuesOf l6 nm7))) : Int) > 0)) (tup [agg [int i64 0, int i64 0], bool true, int i64 8] = v) (ifP (decide ((↑(length (encS (valuesOf l6 nm7))) : Int) > 0)) (∃ (l11 : List Fld) (nm12 : List UInt8) (sz13 : Nat), okFs l11 ∧ szOk sz13 2 (length l11) ∧ length nm12 ≤ 10000000 ∧ [sl sz (stripss 0 [] e) none, str [116, 114, 97, 110, 115, 102, 101, 114, 45, 101, 110, 99, 111, 100, 105, 110, 103]] = [sl sz13 (encFs l11) none, str nm12] ∧ ifP (!snd (pcsR (valuesOf l11 nm12))) (tup [agg [int i64 0, int i64 0], bool true, int i64 4] = v) (ifP ((↑(length (encS (fst (pcsR (valuesOf l11 nm12))))) : Int) != 1) (tup [agg [int i64 0, int i64 0], bool true, int i64 4] = v) (gAnd (inR 0 (length (encS (fst (pcsR (valuesOf l11 nm12))))) && true && true) (∃ (s16 : List UInt8), getE (encS (fst (pcsR (valuesOf l11 nm12)))) 0 = [str s16] ∧ ∃ (s17 : List UInt8), length s17 ≤ 10000000 ∧ [str s16] = [str s17] ∧ ifP (!lowS s17 == [99, 104, 117, 110, 107, 101, 100]) (tup [agg [int i64 0, int i64 0], bool true, int i64 4] = v) (tup [agg [int i64 2, int i64 0], bool true, int i64 0] = v))))) (∃ (l18 : List Fld) (nm19 : List UInt8) (sz20 : Nat), okFs l18 ∧ szOk sz20 2 (length l18) ∧ length nm19 ≤ 10000000 ∧ [sl sz (stripss 0 [] e) none, str [99, 111, 110, 116, 101, 110, 116, 45, 108, 101, 110, 103, 116, 104]] = [sl sz20 (encFs l18) none, str nm19] ∧ ifP (!snd (pcsR (valuesOf l18 nm19))) (tup [agg [int i64 0, int i64 0], bool true, int i64 4] = v) (gAnd (inR 0 (length (encS (fst (pcsR (valuesOf l18 nm19))))) && true && true) (∃ (s23 : List UInt8), getE (encS (fst (pcsR (valuesOf l18 nm19)))) 0 = [str s23] ∧ ∃ (s24 : List UInt8), length s24 ≤ 10000000 ∧ [str s23] = [str s24] ∧ ToEnd cfg 85 (bodyOf f85) (RetIs prog f85 v) [code [0, 1, 0, 1, 1, 1, 1, 1, 1, 1, 1, 1, 1], block 0, code [1, 1, 1, 1, 1, 1, 1, 1, 1, 1, 1]] normal [(2, true, ptr 0 0), (9, true, sl 1 (encS (fst (pcsR (valuesOf l18 nm19)))) none), (11, true, bool false), (12, true, int i64 (if numB s24 = true then (↑(numV s24) : Int) else 0)), (14, true, int i64 0)] [mem 84 [int i64 0, int i64 0]]))))) (ifP (decide ((↑(length (encS (valuesOf l6 nm7))) : Int) > 0)) (∃ (l25 : List Fld) (nm26 : List UInt8) (sz27 : Nat), okFs l25 ∧ szOk sz27 2 (length l25) ∧ length nm26 ≤ 10000000 ∧ [sl sz (stripss 0 [] e) none, str [116, 114, 97, 110, 115, 102, 101, 114, 45, 101, 110, 99, 111, 100, 105, 110, 103]] = [sl sz27 (encFs l25) none, str nm26] ∧ ifP (!snd (pcsR (valuesOf l25 nm26))) (tup [agg [int i64 0, int i64 0], bool true, int i64 4] = v) (ifP ((↑(length (encS (fst (pcsR (valuesOf l25 nm26))))) : Int) != 1) (tup [agg [int i64 0, int i64 0], bool true, int i64 4] = v) (gAnd (inR 0 (length (encS (fst (pcsR (valuesOf l25 nm26))))) && true && true) (∃ (s30 : List UInt8), getE (encS (fst (pcsR (valuesOf l25 nm26)))) 0 = [str s30] ∧ ∃ (s31 : List UInt8), length s31 ≤ 10000000 ∧ [str s30] = [str s31] ∧ ifP (!lowS s31 == [99, 104, 117, 110, 107, 101, 100]) (tup [agg [int i64 0, int i64 0], bool true, int i64 4] = v) (tup [agg [int i64 2, int i64 0], bool true, int i64 0] = v))))) (∃ (l32 : List Fld) (nm33 : List UInt8) (sz34 : Nat), okFs l32 ∧ szOk sz34 2 (length l32) ∧ length nm33 ≤ 10000000 ∧ [sl sz (stripss 0 [] e) none, str [99, 111, 110, 116, 101, 110, 116, 45, 108, 101, 110, 103, 116, 104]] = [sl sz34 (encFs l32) none, str nm33] ∧ ifP (!snd (pcsR (valuesOf l32 nm33))) (tup [agg [int i64 0, int i64 0], bool true, int i64 4] = v) (gAnd (inR 0 (length (encS (fst (pcsR (valuesOf l32 nm33))))) && true && true) (∃ (s37 : List UInt8), getE (encS (fst (pcsR (valuesOf l32 nm33)))) 0 = [str s37] ∧ ∃ (s38 : List UInt8), length s38 ≤ 10000000 ∧ [str s37] = [str s38] ∧ ToEnd cfg 85 (bodyOf f85) (RetIs prog f85 v) [code [0, 1, 0, 1, 1, 1, 1, 1, 1, 1, 1, 1, 1], block 0, code [1, 1, 1, 1, 1, 1, 1, 1, 1, 1, 1]] normal [(2, true, ptr 0 0), (9, true, sl 1 (encS (fst (pcsR (valuesOf l32 nm33)))) none), (11, true, bool false), (12, true, int i64 (if numB s38 = true then (↑(numV s38) : Int) else 0)), (14, true, int i64 0)] [mem 84 [int i64 0, int i64 0]])))))) (ifP (decide ((↑(length (encS (valuesOf l1 nm2))) : Int) > 0)) (ifP (decide ((↑(length (encS (valuesOf l6 nm7))) : Int) > 0)) (tup [agg [int i64 0, int i64 0], bool true, int i64 8] = v) (ifP (decide ((↑(length (encS (valuesOf l6 nm7))) : Int) > 0)) (∃ (l39 : List Fld) (nm40 : List UInt8) (sz41 : Nat), okFs l39 ∧ szOk sz41 2 (length l39) ∧ length nm40 ≤ 10000000 ∧ [sl sz (stripss 0 [] e) none, str [116, 114, 97, 110, 115, 102, 101, 114, 45, 101, 110, 99, 111, 100, 105, 110, 103]] = [sl sz41 (encFs l39) none, str nm40] ∧ ifP (!snd (pcsR (valuesOf l39 nm40))) (tup [agg [int i64 0, int i64 0], bool true, int i64 4] = v) (ifP ((↑(length (encS (fst (pcsR (valuesOf l39 nm40))))) : Int) != 1) (tup [agg [int i64 0, int i64 0], bool true, int i64 4] = v) (gAnd (inR 0 (length (encS (fst (pcsR (valuesOf l39 nm40))))) && true && true) (∃ (s44 : List UInt8), getE (encS (fst (pcsR (valuesOf l39 nm40)))) 0 = [str s44] ∧ ∃ (s45 : List UInt8), length s45 ≤ 10000000 ∧ [str s44] = [str s45] ∧ ifP (!lowS s45 == [99, 104, 117, 110, 107, 101, 100]) (tup [agg [int i64 0, int i64 0], bool true, int i64 4] = v) (tup [agg [int i64 2, int i64 0], bool true, int i64 0] = v))))) (∃ (l46 : List Fld) (nm47 : List UInt8) (sz48 : Nat), okFs l46 ∧ szOk sz48 2 (length l46) ∧ length nm47 ≤ 10000000 ∧ [sl sz (stripss 0 [] e) none, str [99, 111, 110, 116, 101, 110, 116, 45, 108, 101, 110, 103, 116, 104]] = [sl sz48 (encFs l46) none, str nm47] ∧ ifP (!snd (pcsR (valuesOf l46 nm47))) (tup [agg [int i64 0, int i64 0], bool true, int i64 4] = v) (gAnd (inR 0 (length (encS (fst (pcsR (valuesOf l46 nm47))))) && true && true) (∃ (s51 : List UInt8), getE (encS (fst (pcsR (valuesOf l46 nm47)))) 0 = [str s51] ∧ ∃ (s52 : List UInt8), length s52 ≤ 10000000 ∧ [str s51] = [str s52] ∧ ToEnd cfg 85 (bodyOf f85) (RetIs prog f85 v) [code [0, 1, 0, 1, 1, 1, 1, 1, 1, 1, 1, 1, 1], block 0, code [1, 1, 1, 1, 1, 1, 1, 1, 1, 1, 1]] normal [(2, true, ptr 0 0), (9, true, sl 1 (encS (fst (pcsR (valuesOf l46 nm47)))) none), (11, true, bool false), (12, true, int i64 (if numB s52 = true then (↑(numV s52) : Int) else 0)), (14, true, int i64 0)] [mem 84 [int i64 0, int i64 0]]))))) (ifP (decide ((↑(length (encS (valuesOf l6 nm7))) : Int) > 0)) (∃ (l53 : List Fld) (nm54 : List UInt8) (sz55 : Nat), okFs l53 ∧ szOk sz55 2 (length l53) ∧ length nm54 ≤ 10000000 ∧ [sl sz (stripss 0 [] e) none, str [116, 114, 97, 110, 115, 102, 101, 114, 45, 101, 110, 99, 111, 100, 105, 110, 103]] = [sl sz55 (encFs l53) none, str nm54] ∧ ifP (!snd (pcsR (valuesOf l53 nm54))) (tup [agg [int i64 0, int i64 0], bool true, int i64 4] = v) (ifP ((↑(length (encS (fst (pcsR (valuesOf l53 nm54))))) : Int) != 1) (tup [agg [int i64 0, int i64 0], bool true, int i64 4] = v) (gAnd (inR 0 (length (encS (fst (pcsR (valuesOf l53 nm54))))) && true && true) (∃ (s58 : List UInt8), getE (encS (fst (pcsR (valuesOf l53 nm54)))) 0 = [str s58] ∧ ∃ (s59 : List UInt8), length s59 ≤ 10000000 ∧ [str s58] = [str s59] ∧ ifP (!lowS s59 == [99, 104, 117, 110, 107, 101, 100]) (tup [agg [int i64 0, int i64 0], bool true, int i64 4] = v) (tup [agg [int i64 2, int i64 0], bool true, int i64 0] = v))))) (∃ (l60 : List Fld) (nm61 : List UInt8) (sz62 : Nat), okFs l60 ∧ szOk sz62 2 (length l60) ∧ length nm61 ≤ 10000000 ∧ [sl sz (stripss 0 [] e) none, str [99, 111, 110, 116, 101, 110, 116, 45, 108, 101, 110, 103, 116, 104]] = [sl sz62 (encFs l60) none, str nm61] ∧ ifP (!snd (pcsR (valuesOf l60 nm61))) (tup [agg [int i64 0, int i64 0], bool true, int i64 4] = v) (gAnd (inR 0 (length (encS (fst (pcsR (valuesOf l60 nm61))))) && true && true) (∃ (s65 : List UInt8), getE (encS (fst (pcsR (valuesOf l60 nm61)))) 0 = [str s65] ∧ ∃ (s66 : List UInt8), length s66 ≤ 10000000 ∧ [str s65] = [str s66] ∧ ToEnd cfg 85 (bodyOf f85) (RetIs prog f85 v) [code [0, 1, 0, 1, 1, 1, 1, 1, 1, 1, 1, 1, 1], block 0, code [1, 1, 1, 1, 1, 1, 1, 1, 1, 1, 1]] normal [(2, true, ptr 0 0), (9, true, sl 1 (encS (fst (pcsR (valuesOf l60 nm61)))) none), (11, true, bool false), (12, true, int i64 (if numB s66 = true then (↑(numV s66) : Int) else 0)), (14, true, int i64 0)] [mem 84 [int i64 0, int i64 0]])))))) : ToEnd cfg 85 (bodyOf f85) (RetIs prog f85 v) ([.code []]) .normal ([(0, true, .sl sz e none)]) ([]) := by
  exact unr_ok (pl := ⟨[[0, 1, 0, 1, 1, 1, 1, 1, 1, 1, 1, 1, 1]], [([0, 0, 1, 0, 1, 0, 1, 1, 1, 1, 1], 9, [.str]), ([0, 1, 1, 1, 1, 1, 1, 1, 1, 1], 1, [.str]), ([0, 0, 0, 1, 0, 0, 1, 0, 1, 1, 1, 1, 1, 1, 1, 1, 1, 1], 2, [.str])]⟩) hT 100000 _ _ _ _ (unr_use H (by kernel_rfl))
theorem t85b {v : AV}   {e9 : List (List AV)} {b11 : Bool} {i12 : Int} {i14 : Int} {ih0_0 : Int} {ih0_1 : Int} (hT : TabOk cfg (ctab [(130, valuesC), (131, piecesRC), (133, Ai.numC), (132, lowerC)])) (H : ifP (decide (i14 < (↑(length e9) : Int))) (gAnd (inR i14 (length e9) && true && true) (∃ (s1 : List UInt8), getE e9 i14 = [str s1] ∧ ∃ (s2 : List UInt8), length s2 ≤ 10000000 ∧ [str s1] = [str s2] ∧ ifP (!numB s2) (tup [agg [int i64 0, int i64 0], bool true, int i64 4] = v) (ifP b11 (ToEnd cfg 85 (bodyOf f85) (RetIs prog f85 v) [code [0, 1, 0, 1, 1, 1, 1, 1, 1, 1, 1, 1, 1], block 0, code [1, 1, 1, 1, 1, 1, 1, 1, 1, 1, 1]] normal [(2, true, ptr 0 0), (9, true, sl 1 e9 none), (11, true, bool true), (12, true, int i64 i12), (14, true, int i64 (wrap i64 (i14 + 1)))] [mem 84 [int i64 ih0_0, int i64 ih0_1]]) (ToEnd cfg 85 (bodyOf f85) (RetIs prog f85 v) [code [0, 1, 0, 1, 1, 1, 1, 1, 1, 1, 1, 1, 1], block 0, code [1, 1, 1, 1, 1, 1, 1, 1, 1, 1, 1]] normal [(2, true, ptr 0 0), (9, true, sl 1 e9 none), (11, true, bool ((if numB s2 = true then (↑(numV s2) : Int) else 0) != i12)), (12, true, int i64 i12), (14, true, int i64 (wrap i64 (i14 + 1)))] [mem 84 [int i64 ih0_0, int i64 ih0_1]])))) (ifP b11 (tup [agg [int i64 0, int i64 0], bool true, int i64 8] = v) (tup [agg [int i64 1, int i64 i12], bool true, int i64 0] = v))) : ToEnd cfg 85 (bodyOf f85) (RetIs prog f85 v) ([.code [0, 1, 0, 1, 1, 1, 1, 1, 1, 1, 1, 1, 1], block 0, code [1, 1, 1, 1, 1, 1, 1, 1, 1, 1, 1]]) .normal ([(2, true, ptr 0 0), (9, true, sl 1 e9 none), (11, true, bool b11), (12, true, int i64 i12), (14, true, int i64 i14)]) ([mem 84 [int i64 ih0_0, int i64 ih0_1]]) := by
  exact ends_round (pl := ⟨[[0, 1, 0, 1, 1, 1, 1, 1, 1, 1, 1, 1, 1]], [([0, 0, 1, 0, 1, 0, 1, 1, 1, 1, 1], 9, [.str]), ([0, 1, 1, 1, 1, 1, 1, 1, 1, 1], 1, [.str]), ([0, 0, 0, 1, 0, 0, 1, 0, 1, 1, 1, 1, 1, 1, 1, 1, 1, 1], 2, [.str])]⟩) hT 100000 (by kernel_rfl) (unr_use H (by kernel_rfl))
theorem t35 {v : AV} {e : List (List AV)} {sz : Nat} (hT : TabOk cfg (ctab [(78, ofC)])) (H : ∃ (l1 : List Fld) (sz2 : Nat) (o3 : Int), okFs l1 ∧ szOk sz2 2 (length l1) ∧ [sl sz (stripss 0 [] e) none, int i64 0] = [sl sz2 (encFs l1) none, int i64 o3] ∧ ifP (decide (fst (snd (frm l1 o3)) > 65536)) (tup [agg [int i64 0, int i64 0], int i64 3] = v) (tup [agg [int i64 (fst (frm l1 o3)), int i64 (fst (snd (frm l1 o3)))], int i64 (snd (snd (frm l1 o3)))] = v)) : ToEnd cfg 35 (bodyOf f35) (RetIs prog f35 v) ([.code []]) .normal ([(0, true, .sl sz e none)]) ([]) := by
  exact unr_ok (pl := ⟨[], []⟩) hT 100000 _ _ _ _ (unr_use H (by kernel_rfl))
theorem t41 {v : AV} {e : List (List AV)} {sz : Nat} (hT : TabOk cfg (ctab [(85, ofRC)])) (H : ∃ (l1 : List Fld) (sz2 : Nat), okFs l1 ∧ szOk sz2 2 (length l1) ∧ [sl sz (stripss 0 [] e) none] = [sl sz2 (encFs l1) none] ∧ ifP (snd (snd (frm l1 0)) != 0) (tup [agg [int i64 0, int i64 0], int i64 (snd (snd (frm l1 0)))] = v) (ifP (decide (fst (snd (frm l1 0)) > 65536)) (tup [agg [int i64 0, int i64 0], int i64 3] = v) (tup [agg [int i64 (fst (frm l1 0)), int i64 (fst (snd (frm l1 0)))], int i64 0] = v))) : ToEnd cfg 41 (bodyOf f41) (RetIs prog f41 v) ([.code []]) .normal ([(0, true, .sl sz e none)]) ([]) := by
  exact unr_ok (pl := ⟨[], []⟩) hT 100000 _ _ _ _ (unr_use H (by kernel_rfl))
theorem t48 {v : AV} {e : List (List AV)} {sz : Nat} {st : Int} {hd : Bool} (hT : TabOk cfg (ctab [(78, ofC)])) (H : ∃ (l1 : List Fld) (sz2 : Nat) (o3 : Int), okFs l1 ∧ szOk sz2 2 (length l1) ∧ [sl sz (stripss 0 [] e) none, int i64 3] = [sl sz2 (encFs l1) none, int i64 o3] ∧ ifP (snd (snd (frm l1 o3)) != 0) (tup [agg [int i64 0, int i64 0], int i64 (snd (snd (frm l1 o3)))] = v) (ifP hd (tup [agg [int i64 0, int i64 0], int i64 0] = v) (ifP (wrap i64 (Int.tdiv st 100) == 1) (tup [agg [int i64 0, int i64 0], int i64 0] = v) (ifP (st == 204) (tup [agg [int i64 0, int i64 0], int i64 0] = v) (ifP (st == 304) (tup [agg [int i64 0, int i64 0], int i64 0] = v) (ifP (decide (fst (snd (frm l1 o3)) > 262144)) (tup [agg [int i64 0, int i64 0], int i64 3] = v) (tup [agg [int i64 (fst (frm l1 o3)), int i64 (fst (snd (frm l1 o3)))], int i64 0] = v))))))) : ToEnd cfg 48 (bodyOf f48) (RetIs prog f48 v) ([.code []]) .normal ([(0, true, .sl sz e none), (1, true, .int .i64 st), (2, true, .bool hd)]) ([]) := by
  exact unr_ok (pl := ⟨[], []⟩) hT 100000 _ _ _ _ (unr_use H (by kernel_rfl))
theorem t51 {v : AV} {e : List (List AV)} {sz : Nat} {st : Int} {hd : Bool} (hT : TabOk cfg (ctab [(85, ofRC)])) (H : ∃ (l1 : List Fld) (sz2 : Nat), okFs l1 ∧ szOk sz2 2 (length l1) ∧ [sl sz (stripss 0 [] e) none] = [sl sz2 (encFs l1) none] ∧ ifP (snd (snd (frm l1 0)) != 0) (tup [agg [int i64 0, int i64 0], int i64 (snd (snd (frm l1 0)))] = v) (ifP hd (tup [agg [int i64 0, int i64 0], int i64 0] = v) (ifP (decide (st ≥ 100)) (ifP (decide (st ≤ 199)) (tup [agg [int i64 0, int i64 0], int i64 0] = v) (ifP (st == 204) (tup [agg [int i64 0, int i64 0], int i64 0] = v) (ifP (st == 304) (tup [agg [int i64 0, int i64 0], int i64 0] = v) (ifP (decide (fst (snd (frm l1 0)) > 262144)) (tup [agg [int i64 0, int i64 0], int i64 3] = v) (ifP (!!(List.isEmpty (valuesOf l1 [99, 111, 110, 116, 101, 110, 116, 45, 108, 101, 110, 103, 116, 104]) && List.isEmpty (valuesOf l1 [116, 114, 97, 110, 115, 102, 101, 114, 45, 101, 110, 99, 111, 100, 105, 110, 103]))) (tup [agg [int i64 3, int i64 0], int i64 0] = v) (tup [agg [int i64 (fst (frm l1 0)), int i64 (fst (snd (frm l1 0)))], int i64 0] = v)))))) (ifP (st == 204) (tup [agg [int i64 0, int i64 0], int i64 0] = v) (ifP (st == 304) (tup [agg [int i64 0, int i64 0], int i64 0] = v) (ifP (decide (fst (snd (frm l1 0)) > 262144)) (tup [agg [int i64 0, int i64 0], int i64 3] = v) (ifP (!!(List.isEmpty (valuesOf l1 [99, 111, 110, 116, 101, 110, 116, 45, 108, 101, 110, 103, 116, 104]) && List.isEmpty (valuesOf l1 [116, 114, 97, 110, 115, 102, 101, 114, 45, 101, 110, 99, 111, 100, 105, 110, 103]))) (tup [agg [int i64 3, int i64 0], int i64 0] = v) (tup [agg [int i64 (fst (frm l1 0)), int i64 (fst (snd (frm l1 0)))], int i64 0] = v)))))))) : ToEnd cfg 51 (bodyOf f51) (RetIs prog f51 v) ([.code []]) .normal ([(0, true, .sl sz e none), (1, true, .int .i64 st), (2, true, .bool hd)]) ([]) := by
  exact unr_ok (pl := ⟨[], []⟩) hT 100000 _ _ _ _ (unr_use H (by kernel_rfl))
end Go.Proofs.YtnncfdlpogjlkaaGreatDoor
end
section
namespace Go.Proofs.YtnncfdlpogjlkaaGreatDoor
open Go.Ai Go
set_option maxRecDepth 100000
theorem pf122 : pureFn cfg 122 Tryz.f122 := (by refine ⟨?_, ?_, ?_, ?_, ?_, ?_⟩ <;> kernel_rfl)
theorem pf121 : pureFn cfg 121 Tryz.f121 := (by refine ⟨?_, ?_, ?_, ?_, ?_, ?_⟩ <;> kernel_rfl)
theorem pf131 : pureFn cfg 131 Tryz.f131 := (by refine ⟨?_, ?_, ?_, ?_, ?_, ?_⟩ <;> kernel_rfl)
theorem pf78 : pureFn cfg 78 Tryz.f78 := (by refine ⟨?_, ?_, ?_, ?_, ?_, ?_⟩ <;> kernel_rfl)
theorem pf85 : pureFn cfg 85 Tryz.f85 := (by refine ⟨?_, ?_, ?_, ?_, ?_, ?_⟩ <;> kernel_rfl)
theorem pf35 : pureFn cfg 35 Tryz.f35 := (by refine ⟨?_, ?_, ?_, ?_, ?_, ?_⟩ <;> kernel_rfl)
theorem pf41 : pureFn cfg 41 Tryz.f41 := (by refine ⟨?_, ?_, ?_, ?_, ?_, ?_⟩ <;> kernel_rfl)
theorem pf48 : pureFn cfg 48 Tryz.f48 := (by refine ⟨?_, ?_, ?_, ?_, ?_, ?_⟩ <;> kernel_rfl)
theorem pf51 : pureFn cfg 51 Tryz.f51 := (by refine ⟨?_, ?_, ?_, ?_, ?_, ?_⟩ <;> kernel_rfl)
theorem loop122 {sz : Nat} : ∀ (r pre acc : List (List UInt8)), okSs (pre ++ r) → szOk sz 1 (pre ++ r).length → acc.length ≤ 64 * pre.length →
    ToEnd cfg 122 (bodyOf Tryz.f122) (RetIs Tryz.prog Tryz.f122 (ansV (finE acc (pcs r)))) [.code [0, 1, 0, 1], .block 0, .code [1, 1]] .normal
      [(2, true, .sl 1 (encS acc) (some 0)), (8, true, .sl sz (encS (pre ++ r)) none), (9, true, .int .i64 ((encS (pre ++ r)).length : Nat)), (10, true, .int .i64 pre.length)] [.grow acc.length 1 9] := by
  have hT : TabOk cfg (ctab [(157, splitC)]) := ctab_ok (ctab_cons c157 ctab_nil); intro r
  induction r with
  | nil =>
    intro pre acc ho hs ha
    refine t122b hT (ifP_intro (fun c => ?_) fun _ => ifP_intro (fun c => ?_) fun c => ?_)
    · simp [encS_len] at c
    · have : acc = [] := by rw [encS_len] at c; cases acc <;> simp_all; omega
      subst this; rfl
    · have : acc ≠ [] := by rintro rfl; simp [encS] at c
      rw [stripss_encS, pcs, finE, if_neg (by simpa using this), List.append_nil]; rfl
  | cons x r ih =>
    intro pre acc ho hs ha
    have hlen : pre.length + 1 ≤ lim := by have := ho.1; simp at this; omega
    have hx := ho.2 x (by simp)
    have hin : (inR (pre.length : Int) (encS (pre ++ x :: r)).length && Nat.beq sz 1 && Nat.ble 1 sz) = true := by
      rw [encS_len, inR_nat (by simp), Bool.true_and]
      exact hs.beq (by simp; omega) (by decide)
    have e : encS acc ++ encS (splitS 44 x).1 = encS (acc ++ (splitS 44 x).1) := (encS_app _ _).symm
    refine t122b hT (ifP_intro (fun _ => gAnd_intro hin ⟨x, getE_ss _ _ _, x, 44, hx, by decide, by decide, rfl, ifP_intro (fun b => ?_) fun b => gAnd_intro ?_ (gAnd_intro ?_ ?_)⟩) fun c => ?_)
    · rw [(fin_stop (ne_of_bne b)).1]; rfl
    · have h64 := splitS_len 44 x
      rw [encS_len, encS_len, tag_ok rfl, decide_eq_true (by unfold lim at hlen; omega)]; rfl
    · rw [e, low_encS, low_encS]; rfl
    · rw [e, wrap_n (by omega), (fin_step (eq_of_bne b)).1]
      have h64 := splitS_len 44 x
      have := ih (pre ++ [x]) (acc ++ (splitS 44 x).1) (by simpa using ho) (by simpa using hs) (by simp; omega)
      simpa [encS_len] using this
    · simp [encS_len] at c; omega
theorem c122 : COk cfg 122 piecesC := by
  refine cok_pure pf122 fun vs h K ht => ?_
  obtain ⟨l, sz, ho, hs, rfl, hk⟩ := ht; refine ⟨_, hk, t122a (ctab_ok (ctab_cons c157 ctab_nil)) ?_⟩; have := loop122 l [] [] ho hs (Nat.le_refl _); rw [finE_nil] at this; exact this
theorem loop131 : ∀ (r pre acc : List (List UInt8)) (g : Nat), okSs (pre ++ r) → acc.length ≤ 64 * pre.length →
    ToEnd cfg 131 (bodyOf Tryz.f131) (RetIs Tryz.prog Tryz.f131 (.tup [.sl 1 (encS (finR acc (pcs r)).1) none, .bool (finR acc (pcs r)).2])) [.code [0, 1, 0, 1, 1, 1], .block 0, .code [1, 1, 1, 1]] .normal
      [(6, true, .sl 1 (encS acc) (some 1)), (7, true, .sl 1 (encS (pre ++ r)) none), (8, true, .int .i64 pre.length)] [.grow g 1 9, .grow acc.length 1 9] := by
  have hT : TabOk cfg (ctab [(130, valuesC), (159, splitC)]) := ctab_ok (ctab_cons c130 (ctab_cons c159 ctab_nil)); intro r
  induction r with
  | nil =>
    intro pre acc g ho ha
    refine t131b hT (ifP_intro (fun c => ?_) fun _ => ?_)
    · simp [encS_len] at c
    · rw [stripss_encS, pcs, finR, List.append_nil, encS_len]
      cases acc with
      | nil => rfl
      | cons a acc => rw [pos_cons]; rfl
  | cons x r ih =>
    intro pre acc g ho ha
    have hlen : pre.length + 1 ≤ lim := by have := ho.1; simp at this; omega
    have hx := ho.2 x (by simp)
    have hin : (inR (pre.length : Int) (encS (pre ++ x :: r)).length && true && true) = true := by
      rw [encS_len, inR_nat (by simp)]; rfl
    have e : encS acc ++ encS (splitS 44 x).1 = encS (acc ++ (splitS 44 x).1) := (encS_app _ _).symm
    refine t131b hT (ifP_intro (fun _ => gAnd_intro hin ⟨x, getE_ss _ _ _, x, 44, hx, by decide, by decide, rfl, ifP_intro (fun b => ?_) fun b => gAnd_intro ?_ (gAnd_intro ?_ ?_)⟩) fun c => ?_)
    · rw [(fin_stop (ne_of_bne b)).2]; rfl
    · have h64 := splitS_len 44 x
      rw [encS_len, encS_len, tag_ok rfl, decide_eq_true (by unfold lim at hlen; omega)]; rfl
    · rw [e, low_encS, low_encS]; rfl
    · rw [e, wrap_n (by omega), (fin_step (eq_of_bne b)).2]
      have h64 := splitS_len 44 x
      have := ih (pre ++ [x]) (acc ++ (splitS 44 x).1) g (by simpa using ho) (by simp; omega)
      simpa [encS_len] using this
    · simp [encS_len] at c; omega
theorem c131 : COk cfg 131 piecesRC := by
  refine cok_pure pf131 fun vs h K ht => ?_
  obtain ⟨l, nm, sz, ho, hs, hn, rfl, hk⟩ := ht
  refine ⟨_, hk, t131a (ctab_ok (ctab_cons c130 (ctab_cons c159 ctab_nil))) ⟨l, nm, sz, ho, hs, hn, by rw [stripss_encFs], ?_⟩⟩
  have := loop131 (valuesOf l nm) [] [] 0 (okSs_values ho nm) (Nat.le_refl _); rw [finR_nil] at this; exact this
theorem c88 : COk cfg 88 Ai.atoiC := by
  refine cok_prim (by kernel_rfl) (by kernel_rfl) (by kernel_rfl : cfg.prim 88 = some pAtoi) (by kernel_rfl) fun vs h K ht => ?_
  obtain ⟨s, hl, rfl, hk⟩ := ht; refine ⟨.tup [.int .i64 (atoiV s), .top], hk, ?_⟩
  have : Nat.blt s.length 4294967281 = true := Nat.ble_eq_true_of_le (by unfold lim at hl; omega)
  simp only [pAtoi, this]
def encI (l : List Nat) : List (List AV) := l.map fun (n : Nat) => [AV.int .i64 ((n : Nat) : Int)]
theorem encI_len (l : List Nat) : (encI l).length = l.length := by simp [encI]
theorem low_encI (n : Nat) (l : List Nat) : lowVss n (encI l) = true := lowss_pure n _ fun x hx => by
  obtain ⟨b, _, rfl⟩ := List.mem_map.1 hx; rfl
theorem getE_is (pre r : List Nat) (x : Nat) : getE (encI (pre ++ x :: r)) (pre.length : Nat) = [.int .i64 (x : Int)] := by
  unfold getE encI; simp
def sameN (n : Nat) (l : List Nat) : Int × Int := if l.all (fun m => m == n) = true then ((n : Nat), 0) else (0, 8)
theorem tab121 : TabOk cfg (ctab [(122, piecesC), (155, trimSC), (88, Ai.atoiC)]) := ctab_ok (ctab_cons c122 (ctab_cons c155 (ctab_cons c88 ctab_nil)))
theorem sameN_cons (n m : Nat) (l : List Nat) : sameN n (m :: l) = if m = n then sameN n l else (0, 8) := by
  unfold sameN; rw [List.all_cons]
  by_cases h : m = n
  · subst h; simp
  · have : (m == n) = false := beq_eq_false_iff_ne.2 h; rw [this, if_neg h]; rfl
theorem loop121c : ∀ (r pre : List Nat) (n : Nat) (t : List Nat), pre ++ r = n :: t → (pre ++ r).length ≤ 100 * lim →
    ToEnd cfg 121 (bodyOf Tryz.f121) (RetIs Tryz.prog Tryz.f121 (.tup [.int .i64 (sameN n r).1, .int .i64 (sameN n r).2])) [.code [0, 1, 0, 1, 1, 1, 1, 1], .block 2, .code [1, 1, 1, 1, 1, 1]] .normal
      [(6, true, .sl 1 (encI (pre ++ r)) (some 0)), (45, true, .sl 1 (encI (pre ++ r)) (some 0)), (46, true, .int .i64 ((encI (pre ++ r)).length : Nat)), (47, true, .int .i64 pre.length)] [.grow (pre ++ r).length 1 3] := by
  intro r
  have first : ∀ (l t : List Nat) (n : Nat), l = n :: t → (inR 0 (encI l).length && true && true) = true ∧ getE (encI l) 0 = [.int .i64 (n : Int)] := fun l t n h => by
    subst h
    exact ⟨by rw [encI_len, inR_of (by omega) (by simp)]; rfl, getE_is [] t n⟩
  induction r with
  | nil =>
    intro pre n t he hl
    refine t121c tab121 (ifP_intro (fun c => ?_) fun _ => gAnd_intro (first _ t n he).1 ⟨_, (first _ t n he).2, rfl⟩)
    simp [encI_len] at c
  | cons x r ih =>
    intro pre n t he hl
    have hlen : pre.length + 1 ≤ 100 * lim := by simp at hl; omega
    refine t121c tab121 (ifP_intro (fun _ => gAnd_intro (by rw [encI_len, inR_nat (by simp)]; rfl) ⟨_, getE_is _ _ _, gAnd_intro (first _ t n he).1 ⟨_, (first _ t n he).2, ifP_intro (fun b => ?_) fun b => gAnd_intro (by rw [low_encI]; rfl) ?_⟩⟩) fun c => ?_)
    · have : x ≠ n := by rintro rfl; simp at b
      rw [sameN_cons, if_neg this]
    · have : x = n := by simpa [bne, Int.ofNat_inj] using b
      have hw : IntKind.wrap .i64 ((pre.length : Int) + 1) = ((pre.length + 1 : Nat) : Int) := by unfold lim at hlen; rw [wrap_in (by omega) (by omega)]; omega
      rw [sameN_cons, if_pos this, hw]
      have := ih (pre ++ [x]) n t (by simpa using he) (by simpa using hl)
      simpa using this
    · simp [encI_len] at c; omega
def lenW (acc : List Nat) (r : List (List UInt8)) : Int × Int := if r.all numB = true then sameN ((acc ++ r.map numV).headD 0) (acc ++ r.map numV) else (0, 4)
theorem lenW_nil (ps : List (List UInt8)) : lenW [] ps = lenV ps := by
  unfold lenW lenV sameN
  cases ps with
  | nil => rfl
  | cons p ps =>
    simp only [List.nil_append, List.all_map, Function.comp_def]; rfl
theorem loop121b : ∀ (r pre : List (List UInt8)) (acc : List Nat), (pre ++ r).length ≤ 64 * lim → pre ++ r ≠ [] → acc.length = pre.length → (∀ p ∈ r, p ≠ [] ∧ p.length ≤ lim) →
    ToEnd cfg 121 (bodyOf Tryz.f121) (RetIs Tryz.prog Tryz.f121 (.tup [.int .i64 (lenW acc r).1, .int .i64 (lenW acc r).2])) [.code [0, 1, 0, 1, 1, 1, 1], .block 0, .code [1, 1, 1, 1, 1]] .normal
      [(6, true, .sl 1 (encI acc) (some 0)), (21, true, .sl 1 (encS (pre ++ r)) none), (22, true, .int .i64 ((encS (pre ++ r)).length : Nat)), (23, true, .int .i64 pre.length)] [.grow acc.length 1 3] := by
  intro r
  induction r with
  | nil =>
    intro pre acc hl hne ha hp
    refine t121b tab121 (ifP_intro (fun c => ?_) fun _ => ?_)
    · simp [encS_len] at c
    · obtain ⟨n, t, rfl⟩ : ∃ n t, acc = n :: t := by
        cases acc with
        | nil => rw [List.append_nil] at hne; exact absurd (List.eq_nil_of_length_eq_zero ha.symm) hne
        | cons n t => exact ⟨n, t, rfl⟩
      have := loop121c (n :: t) [] n t rfl (by simp at ha hl ⊢; omega)
      have e : lenW (n :: t) [] = sameN n (n :: t) := by simp [lenW]
      rw [e]; exact this
  | cons x r ih =>
    intro pre acc hl hne ha hp
    have hlen : pre.length + 1 ≤ 64 * lim := by simp at hl; omega
    obtain ⟨hx0, hx1⟩ := hp x (by simp)
    have bad : numB x = false → AV.tup [.int .i64 0, .int .i64 4] = AV.tup [.int .i64 (lenW acc (x :: r)).1, .int .i64 (lenW acc (x :: r)).2] := fun h => by
      unfold lenW; rw [List.all_cons, h]; rfl
    have e : ∀ z : Int, z = (numV x : Nat) → encI acc ++ [[AV.int .i64 z]] = encI (acc ++ [numV x]) := fun z hz => by subst hz; simp [encI]
    refine t121b tab121 (ifP_intro (fun _ => gAnd_intro (by rw [encS_len, inR_nat (by simp)]; rfl) ⟨x, getE_ss _ _ _, ifP_intro (fun b => bad ?_) fun b => ⟨x, dgS, hx1, by decide, by decide, rfl, ifP_intro (fun c => bad ?_) fun c => ⟨x, hx1, rfl, ?_⟩⟩⟩) fun c => ?_)
    · simp only [gt_iff_lt, decide_eq_true_eq] at b; unfold numB
      rw [decide_eq_false (by omega)]; simp
    · simp only [gt_iff_lt, decide_eq_false_iff_not] at b
      rw [numB_of hx0 (by omega)]
      have : ¬ Lib.trimS x dgS = [] := by simpa using c
      rw [trim_dg] at this; simpa using this
    · simp only [gt_iff_lt, decide_eq_false_iff_not] at b
      have hn : numB x = true := by
        rw [numB_of hx0 (by omega), ← trim_dg]
        simpa using c
      have hw : IntKind.wrap .i64 ((pre.length : Int) + 1) = ((pre.length + 1 : Nat) : Int) := by unfold lim at hlen; rw [wrap_in (by omega) (by omega)]; omega
      refine gAnd_intro ?_ (gAnd_intro ?_ ?_)
      · rw [encI_len, tag_ok rfl, decide_eq_true (by unfold lim at hlen; omega)]; rfl
      · rw [e _ (atoi_num hn), low_encI, low_encS]; rfl
      · rw [e _ (atoi_num hn), encI_len, hw]
        have := ih (pre ++ [x]) (acc ++ [numV x]) (by simpa using hl) (by simp) (by simp [ha]) (fun p h => hp p (by simp [h]))
        have e2 : lenW acc (x :: r) = lenW (acc ++ [numV x]) r := by
          unfold lenW; rw [List.all_cons, hn, Bool.true_and, List.map_cons, List.append_assoc, List.singleton_append]
        rw [e2]; simpa using this
    · simp [encS_len] at c; omega
theorem c121 : COk cfg 121 lengthC := by
  refine cok_pure pf121 fun vs h K ht => ?_
  obtain ⟨l, sz, ho, hs, rfl, hk⟩ := ht
  refine ⟨_, hk, t121a tab121 ⟨l, sz, ho, hs, by rw [stripss_encS], ?_⟩⟩
  have hm := fun ps (h : pcs l = some ps) => pcs_mem ho.2 h
  have hln := fun ps (h : pcs l = some ps) => pcs_len h
  have hl := ho.1; unfold pcsE lenA
  cases hq : pcs l with
  | none => exact ifP_intro (fun _ => rfl) fun b => by simp at b
  | some ps =>
    cases ps with
    | nil => exact ifP_intro (fun _ => rfl) fun b => by simp at b
    | cons p ps =>
      refine ifP_intro (fun b => by simp at b) fun _ => ?_
      have := loop121b (p :: ps) [] [] (by have := hln _ hq; simp at this ⊢; omega) (by simp) rfl (hm _ hq)
      rw [lenW_nil] at this; exact this
end Go.Proofs.YtnncfdlpogjlkaaGreatDoor
end
section
namespace Go.Proofs.YtnncfdlpogjlkaaGreatDoor
open Go.Ai Go
set_option maxRecDepth 100000
theorem byLen_eq (a : List (List UInt8)) : byLen a = if (lenA a).2 = 0 then (1, (lenA a).1, 0) else (0, 0, (lenA a).2) := by
  unfold byLen lenA
  cases pcs a with
  | none => rfl
  | some ps => cases ps <;> rfl
theorem ch_low : lowS chS = chS := by decide
theorem ofV_len {a : List UInt8} {A : List (List UInt8)} (o : Int) : ofV (a :: A) [] o = byLen (a :: A) := by simp [ofV]
theorem ofV_cod {b : List UInt8} {B : List (List UInt8)} (o : Int) : ofV [] (b :: B) o = byCod (b :: B) := by simp [ofV]
theorem ofV_both {a b : List UInt8} {A B : List (List UInt8)} (o : Int) : ofV (a :: A) (b :: B) o = (0, 0, 8) := by simp [ofV]
theorem ofV_none (o : Int) : ofV [] [] o = (o, 0, 0) := by simp [ofV]
theorem tab78 : TabOk cfg (ctab [(120, valuesC), (121, lengthC), (122, piecesC), (105, likeC)]) := ctab_ok (ctab_cons c120 (ctab_cons c121 (ctab_cons c122 (ctab_cons c105 ctab_nil))))
theorem c78 : COk cfg 78 ofC := by
  refine cok_pure pf78 fun vs h K ht => ?_
  obtain ⟨l, sz, o, ho, hs, rfl, hk⟩ := ht
  refine ⟨_, hk, t78 tab78 ⟨l, clS, sz, ho, hs, by decide, by rw [stripss_encFs]; rfl, l, teS, sz, ho, hs, by decide, by rw [stripss_encFs]; rfl, ?_⟩⟩
  have hA := okSs_values ho clS; have hB := okSs_values ho teS; have hf : frm l o = ofV (valuesOf l clS) (valuesOf l teS) o := rfl; rw [hf]; generalize valuesOf l clS = A at *; generalize valuesOf l teS = B at *; simp only [encS_len, stripss_encS]
  cases A with
  | nil =>
    cases B with
    | nil => simp only [pos_nil, ifP_false, ofV_none]
    | cons b B =>
      simp only [pos_nil, pos_cons, ifP_false, ifP_true, ofV_cod]; refine ⟨b :: B, 1, hB, .inl rfl, rfl, ?_⟩
      have hm := fun ps (h : pcs (b :: B) = some ps) => pcs_mem hB.2 h
      unfold pcsE byCod
      cases hq : pcs (b :: B) with
      | none => exact ifP_intro (fun _ => rfl) fun c => by simp at c
      | some ps =>
        match ps, hq with
        | [], _ => exact ifP_intro (fun _ => rfl) fun c => by simp at c
        | [p], hq =>
          refine ifP_intro (fun c => by simp at c) fun _ => ifP_intro (fun c => by simp at c) fun _ => gAnd_intro (by rfl) ⟨p, rfl, p, chS, (hm _ hq p (by simp)).2, by decide, rfl, ?_⟩
          rw [ch_low]
          refine ifP_intro (fun c => ?_) fun c => ?_
          · simp only [if_neg (show ¬ lowS p = chS from by simpa using c)]
          · simp only [if_pos (show lowS p = chS from by simpa using c)]
        | p :: q :: t, _ => exact ifP_intro (fun c => by simp at c) fun _ => ifP_intro (fun _ => rfl) fun c => by simp [bne] at c; omega
  | cons a A =>
    cases B with
    | nil =>
      simp only [pos_nil, pos_cons, ifP_false, ifP_true, ofV_len, byLen_eq]
      refine ⟨a :: A, 1, hA, .inl rfl, rfl, ifP_intro (fun c => ?_) fun c => ?_⟩
      · rw [if_neg (ne_of_bne c)]
      · rw [if_pos (eq_of_bne c)]
    | cons b B => simp only [pos_cons, ifP_true, ofV_both]
theorem tab35 : TabOk cfg (ctab [(78, ofC)]) := ctab_ok (ctab_cons c78 ctab_nil)
theorem c35 : COk cfg 35 askFC := by
  refine cok_pure pf35 fun vs h K ht => ?_
  obtain ⟨l, sz, ho, hs, rfl, hk⟩ := ht
  refine ⟨_, hk, t35 tab35 ⟨l, sz, 0, ho, hs, by rw [stripss_encFs], ifP_intro (fun c => ?_) fun c => ?_⟩⟩
  · simp only [gt_iff_lt, decide_eq_true_eq] at c; rw [asksF, if_pos c]
  · simp only [gt_iff_lt, decide_eq_false_iff_not] at c; rw [asksF, if_neg c]
theorem bare_quo {st : Int} (h0 : -9223372036854775808 ≤ st) (h1 : st ≤ 9223372036854775807) : (IntKind.wrap .i64 (Int.tdiv st 100) == 1) = (decide (100 ≤ st) && decide (st ≤ 199)) := by
  have e : IntKind.wrap .i64 (Int.tdiv st 100) = Int.tdiv st 100 := by
    rcases Int.le_total 0 st with h | h
    · rw [Int.tdiv_eq_ediv_of_nonneg h, wrap_in (by omega) (by omega)]
    · have := Int.neg_tdiv (a := -st) (b := 100); rw [Int.neg_neg] at this
      rw [this, Int.tdiv_eq_ediv_of_nonneg (by omega), wrap_in (by omega) (by omega)]
  rw [e, Bool.eq_iff_iff, beq_iff_eq, Bool.and_eq_true, decide_eq_true_eq, decide_eq_true_eq]
  rcases Int.le_total 0 st with h | h
  · rw [Int.tdiv_eq_ediv_of_nonneg h]; omega
  · have := Int.neg_tdiv (a := -st) (b := 100); rw [Int.neg_neg] at this
    rw [this, Int.tdiv_eq_ediv_of_nonneg (by omega)]; omega
theorem c48 : COk cfg 48 tellFC := by
  refine cok_pure pf48 fun vs h K ht => ?_
  obtain ⟨l, sz, st, hd, ho, hs, h0, h1, rfl, hk⟩ := ht
  refine ⟨_, hk, t48 tab35 ⟨l, sz, 3, ho, hs, by rw [stripss_encFs], ?_⟩⟩
  rw [bare_quo h0 h1]
  have hb : ∀ p q r : Bool, bareB st = (p || q || r) → p = (decide (100 ≤ st) && decide (st ≤ 199)) → q = (st == 204) → r = (st == 304) → True := fun _ _ _ _ _ _ _ => trivial
  have key : bareB st = ((decide (100 ≤ st) && decide (st ≤ 199)) || (st == 204) || (st == 304)) := by
    rw [Bool.eq_iff_iff]; simp [bareB]
  unfold tellsF; rw [key]
  refine ifP_intro (fun c => ?_) fun c => ?_
  · rw [if_pos (ne_of_bne c)]
  · rw [if_neg (by simpa using eq_of_bne c)]
    refine ifP_intro (fun d => by rw [if_pos (.inl d)]) fun d => ifP_intro (fun e => by rw [if_pos (.inr (by rw [e]; rfl))]) fun e => ifP_intro (fun f => by rw [if_pos (.inr (by rw [f]; simp))]) fun f => ifP_intro (fun g => by rw [if_pos (.inr (by rw [g]; simp))]) fun g => ?_
    rw [if_neg (by rw [d, e, f, g]; simp)]
    refine ifP_intro (fun i => ?_) fun i => ?_
    · simp only [gt_iff_lt, decide_eq_true_eq] at i; rw [if_pos i]
    · simp only [gt_iff_lt, decide_eq_false_iff_not] at i; rw [if_neg i]
def numQ (q : List UInt8) : Int := if numB q = true then (numV q : Nat) else 0
def resL (F : Int) (fl : Bool) (r : List (List UInt8)) : Int × Int × Int := if r.all numB = true then (if (fl || r.any (fun q => numQ q != F)) = true then (0, 0, 8) else (1, F, 0)) else (0, 0, 4)
def frA (x : Int × Int × Int) (b : Bool) : AV := .tup [.agg [.int .i64 x.1, .int .i64 x.2.1], .bool b, .int .i64 x.2.2]
theorem tab85 : TabOk cfg (ctab [(130, valuesC), (131, piecesRC), (133, Ai.numC), (132, lowerC)]) := ctab_ok (ctab_cons c130 (ctab_cons c131 (ctab_cons c133 (ctab_cons c132 ctab_nil))))
theorem loop85 (F : Int) : ∀ (r pre : List (List UInt8)) (fl : Bool), (pre ++ r).length ≤ 64 * lim → (∀ p ∈ r, p ≠ [] ∧ p.length ≤ lim) →
    ToEnd cfg 85 (bodyOf Tryz.f85) (RetIs Tryz.prog Tryz.f85 (frA (resL F fl r) true)) [.code [0, 1, 0, 1, 1, 1, 1, 1, 1, 1, 1, 1, 1], .block 0, .code [1, 1, 1, 1, 1, 1, 1, 1, 1, 1, 1]] .normal
      [(2, true, .ptr 0 0), (9, true, .sl 1 (encS (pre ++ r)) none), (11, true, .bool fl), (12, true, .int .i64 F), (14, true, .int .i64 pre.length)] [.mem 84 [.int .i64 0, .int .i64 0]] := by
  intro r
  induction r with
  | nil =>
    intro pre fl hl hp
    refine t85b tab85 (ifP_intro (fun c => ?_) fun _ => ifP_intro (fun c => ?_) fun c => ?_)
    · simp [encS_len] at c
    · subst c; rfl
    · subst c; rfl
  | cons x r ih =>
    intro pre fl hl hp
    have hlen : pre.length + 1 ≤ 64 * lim := by simp at hl; omega
    obtain ⟨hx0, hx1⟩ := hp x (by simp)
    have hw : IntKind.wrap .i64 ((pre.length : Int) + 1) = ((pre.length + 1 : Nat) : Int) := by unfold lim at hlen; rw [wrap_in (by omega) (by omega)]; omega
    refine t85b tab85 (ifP_intro (fun _ => gAnd_intro (by rw [encS_len, inR_nat (by simp)]; rfl) ⟨x, getE_ss _ _ _, x, hx1, rfl, ifP_intro (fun b => ?_) fun b => ?_⟩) fun c => ?_)
    · have hb : numB x = false := by simpa using b
      unfold resL; rw [List.all_cons, hb]; rfl
    · have hb : numB x = true := by simpa using b
      have e : resL F fl (x :: r) = resL F (fl || numQ x != F) r := by
        unfold resL; rw [List.all_cons, hb, Bool.true_and, List.any_cons, Bool.or_assoc]
      rw [hw, e]
      have := ih (pre ++ [x]) (fl || numQ x != F) (by simpa using hl) (fun p h => hp p (by simp [h]))
      refine ifP_intro (fun c => ?_) fun c => ?_
      · subst c; simpa using this
      · subst c
        have e2 : (if numB x = true then (numV x : Int) else 0) = numQ x := rfl
        rw [e2]; simpa using this
    · simp [encS_len] at c; omega
theorem resL_byLen {p : List UInt8} {ps : List (List UInt8)} : resL (numQ p) false (p :: ps) = if (lenV (p :: ps)).2 = 0 then (1, (lenV (p :: ps)).1, 0) else (0, 0, (lenV (p :: ps)).2) := by
  unfold resL lenV
  by_cases h : (p :: ps).all numB = true
  · rw [if_pos h, if_pos h]
    have hp : numB p = true := by
      rw [List.all_cons, Bool.and_eq_true] at h; exact h.1
    have e : ((false || (p :: ps).any fun q => numQ q != numQ p)) = !((p :: ps).all fun q => numV q == numV ((p :: ps).headD [])) := by
      rw [Bool.false_or, List.headD_cons, List.not_all_eq_any_not, Bool.eq_iff_iff, List.any_eq_true, List.any_eq_true]
      have key : ∀ q ∈ p :: ps, (numQ q != numQ p) = !(numV q == numV p) := fun q hq => by
        have hq' := List.all_eq_true.1 h q hq; unfold numQ; rw [if_pos hq', if_pos hp, Bool.eq_iff_iff]; simp [Int.ofNat_inj]
      constructor
      · rintro ⟨q, hq, hv⟩; exact ⟨q, hq, by rw [← key q hq]; exact hv⟩
      · rintro ⟨q, hq, hv⟩; exact ⟨q, hq, by rw [key q hq]; exact hv⟩
    rw [e]
    cases (p :: ps).all fun q => numV q == numV ((p :: ps).headD []) with
    | true =>
      rw [if_neg (by simp), if_pos rfl, if_pos rfl]
      have : numQ p = ((numV ((p :: ps).headD []) : Nat) : Int) := by
        unfold numQ; rw [if_pos hp]; rfl
      rw [this]
    | false => rw [if_pos (by rfl), if_neg (by simp)]; rfl
  · rw [if_neg h, if_neg h]; rfl
theorem len_enc (p : List UInt8) (ps : List (List UInt8)) : (inR 0 ((p :: ps).length) && true && true) = true := by
  rw [inR_of (by omega) (by simp)]; rfl
theorem c85 : COk cfg 85 ofRC := by
  refine cok_pure pf85 fun vs h K ht => ?_
  obtain ⟨l, sz, ho, hs, rfl, hk⟩ := ht
  refine ⟨_, hk, t85a tab85 ⟨l, clS, sz, ho, hs, by decide, by rw [stripss_encFs]; rfl, l, teS, sz, ho, hs, by decide, by rw [stripss_encFs]; rfl, ?_⟩⟩
  have hA := okSs_values ho clS; have hB := okSs_values ho teS; have hf : frm l 0 = ofV (valuesOf l clS) (valuesOf l teS) 0 := rfl; rw [hf]
  cases hA' : valuesOf l clS with
  | nil =>
    cases hB' : valuesOf l teS with
    | nil => simp only [hA', hB', encS_len, zero_nil, ifP_true, ofV_none]; rfl
    | cons b B =>
      simp only [hA', hB', encS_len, zero_nil, zero_cons, pos_nil, pos_cons, ifP_true, ifP_false, ofV_cod]
      refine ⟨l, teS, sz, ho, hs, by decide, by rw [stripss_encFs]; rfl, ?_⟩
      rw [hB'] at hB ⊢
      have hm := fun ps (h : pcs (b :: B) = some ps) => pcs_mem hB.2 h
      unfold pcsR byCod
      cases hq : pcs (b :: B) with
      | none => exact ifP_intro (fun _ => rfl) fun c => by simp at c
      | some ps =>
        match ps, hq with
        | [], _ => exact ifP_intro (fun _ => rfl) fun c => by simp at c
        | [p], hq =>
          refine ifP_intro (fun c => by simp at c) fun _ => ifP_intro (fun c => by simp at c) fun _ => gAnd_intro (by rfl) ⟨p, rfl, p, (hm _ hq p (by simp)).2, rfl, ?_⟩
          refine ifP_intro (fun c => ?_) fun c => ?_
          · have c' : ¬ lowS p = chS := fun h => by rw [h] at c; revert c; decide
            simp only [if_neg c']; rfl
          · have c' : lowS p = chS := (by simpa using c : lowS p = [99, 104, 117, 110, 107, 101, 100])
            simp only [if_pos c']; rfl
        | p :: q :: t, _ => exact ifP_intro (fun c => by simp at c) fun _ => ifP_intro (fun _ => rfl) fun c => by simp [bne] at c; omega
  | cons a A =>
    cases hB' : valuesOf l teS with
    | nil =>
      simp only [hA', hB', encS_len, zero_nil, zero_cons, pos_nil, pos_cons, ifP_true, ifP_false, ofV_len]
      refine ⟨l, clS, sz, ho, hs, by decide, by rw [stripss_encFs]; rfl, ?_⟩
      rw [hA'] at hA ⊢
      have hm := fun ps (h : pcs (a :: A) = some ps) => pcs_mem hA.2 h
      have hln := fun ps (h : pcs (a :: A) = some ps) => pcs_len h
      have hl := hA.1; unfold pcsR byLen
      cases hq : pcs (a :: A) with
      | none => exact ifP_intro (fun _ => rfl) fun c => by simp at c
      | some ps =>
        match ps, hq with
        | [], _ => exact ifP_intro (fun _ => rfl) fun c => by simp at c
        | p :: ps, hq =>
          refine ifP_intro (fun c => by simp at c) fun _ => gAnd_intro (len_enc p ps) ⟨p, rfl, p, (hm _ hq p (by simp)).2, rfl, ?_⟩
          have := loop85 (numQ p) (p :: ps) [] false (by have := hln _ hq; simp at this hl ⊢; omega) (hm _ hq)
          rw [resL_byLen] at this; exact this
    | cons b B => simp only [hA', hB', encS_len, zero_cons, pos_cons, ifP_true, ifP_false, ofV_both]; rfl
theorem tab41 : TabOk cfg (ctab [(85, ofRC)]) := ctab_ok (ctab_cons c85 ctab_nil)
theorem c41 : COk cfg 41 askFC := by
  refine cok_pure pf41 fun vs h K ht => ?_
  obtain ⟨l, sz, ho, hs, rfl, hk⟩ := ht
  refine ⟨_, hk, t41 tab41 ⟨l, sz, ho, hs, by rw [stripss_encFs], ?_⟩⟩
  unfold asksF
  refine ifP_intro (fun c => ?_) fun c => ifP_intro (fun d => ?_) fun d => ?_
  · have h0 : (frm l 0).2.2 ≠ 0 → (frm l 0).1 = 0 ∧ (frm l 0).2.1 = 0 := by
      unfold frm ofV byLen byCod; intro h
      repeat' split at h
      all_goals first | exact absurd rfl h | (repeat' split) <;> simp_all
    obtain ⟨e1, e2⟩ := h0 (ne_of_bne c)
    rw [e2, if_neg (by omega), e1, e2]
  · simp only [gt_iff_lt, decide_eq_true_eq] at d; rw [if_pos d]
  · simp only [gt_iff_lt, decide_eq_false_iff_not] at d; rw [if_neg d, eq_of_bne c]
theorem frm_says (l : List Fld) : ((!((valuesOf l clS).isEmpty && (valuesOf l teS).isEmpty)) = true → frm l 3 = frm l 0) ∧ ((!((valuesOf l clS).isEmpty && (valuesOf l teS).isEmpty)) = false → frm l 3 = (3, 0, 0) ∧ frm l 0 = (0, 0, 0)) := by
  unfold frm
  cases valuesOf l clS <;> cases valuesOf l teS <;> simp [ofV]
theorem c51 : COk cfg 51 tellFC := by
  refine cok_pure pf51 fun vs h K ht => ?_
  obtain ⟨l, sz, st, hd, ho, hs, h0, h1, rfl, hk⟩ := ht
  refine ⟨_, hk, t51 tab41 ⟨l, sz, ho, hs, by rw [stripss_encFs], ?_⟩⟩
  obtain ⟨k1, k2⟩ := frm_says l
  have key : bareB st = ((decide (100 ≤ st) && decide (st ≤ 199)) || (st == 204) || (st == 304)) := by
    rw [Bool.eq_iff_iff]; simp [bareB]
  have h3 : (frm l 3).2.2 = (frm l 0).2.2 ∧ (frm l 3).2.1 = (frm l 0).2.1 := by
    cases hb : (!((valuesOf l clS).isEmpty && (valuesOf l teS).isEmpty)) with
    | true => rw [k1 hb]; exact ⟨rfl, rfl⟩
    | false => rw [(k2 hb).1, (k2 hb).2]; exact ⟨rfl, rfl⟩
  unfold tellsF; rw [key, h3.1, h3.2]
  refine ifP_intro (fun c => by rw [if_pos (ne_of_bne c)]) fun c => ?_
  rw [if_neg (by simpa using eq_of_bne c)]
  have last : ∀ (hn : ¬ (hd = true ∨ ((decide (100 ≤ st) && decide (st ≤ 199)) || (st == 204) || (st == 304)) = true)),
      ifP (decide ((frm l 0).2.1 > 262144)) (AV.tup [.agg [.int .i64 0, .int .i64 0], .int .i64 3] = AV.tup [.agg [.int .i64 (if hd = true ∨ ((decide (100 ≤ st) && decide (st ≤ 199)) || (st == 204) || (st == 304)) = true then ((0 : Int), (0 : Int), (0 : Int)) else if 262144 < (frm l 0).2.1 then (0, 0, 3) else ((frm l 3).1, (frm l 0).2.1, 0)).1, .int .i64 (if hd = true ∨ ((decide (100 ≤ st) && decide (st ≤ 199)) || (st == 204) || (st == 304)) = true then ((0 : Int), (0 : Int), (0 : Int)) else if 262144 < (frm l 0).2.1 then (0, 0, 3) else ((frm l 3).1, (frm l 0).2.1, 0)).2.1], .int .i64 (if hd = true ∨ ((decide (100 ≤ st) && decide (st ≤ 199)) || (st == 204) || (st == 304)) = true then ((0 : Int), (0 : Int), (0 : Int)) else if 262144 < (frm l 0).2.1 then (0, 0, 3) else ((frm l 3).1, (frm l 0).2.1, 0)).2.2])
      (ifP (!!((valuesOf l clS).isEmpty && (valuesOf l teS).isEmpty)) (AV.tup [.agg [.int .i64 3, .int .i64 0], .int .i64 0] = AV.tup [.agg [.int .i64 (if hd = true ∨ ((decide (100 ≤ st) && decide (st ≤ 199)) || (st == 204) || (st == 304)) = true then ((0 : Int), (0 : Int), (0 : Int)) else if 262144 < (frm l 0).2.1 then (0, 0, 3) else ((frm l 3).1, (frm l 0).2.1, 0)).1, .int .i64 (if hd = true ∨ ((decide (100 ≤ st) && decide (st ≤ 199)) || (st == 204) || (st == 304)) = true then ((0 : Int), (0 : Int), (0 : Int)) else if 262144 < (frm l 0).2.1 then (0, 0, 3) else ((frm l 3).1, (frm l 0).2.1, 0)).2.1], .int .i64 (if hd = true ∨ ((decide (100 ≤ st) && decide (st ≤ 199)) || (st == 204) || (st == 304)) = true then ((0 : Int), (0 : Int), (0 : Int)) else if 262144 < (frm l 0).2.1 then (0, 0, 3) else ((frm l 3).1, (frm l 0).2.1, 0)).2.2])
        (AV.tup [.agg [.int .i64 (frm l 0).1, .int .i64 (frm l 0).2.1], .int .i64 0] = AV.tup [.agg [.int .i64 (if hd = true ∨ ((decide (100 ≤ st) && decide (st ≤ 199)) || (st == 204) || (st == 304)) = true then ((0 : Int), (0 : Int), (0 : Int)) else if 262144 < (frm l 0).2.1 then (0, 0, 3) else ((frm l 3).1, (frm l 0).2.1, 0)).1, .int .i64 (if hd = true ∨ ((decide (100 ≤ st) && decide (st ≤ 199)) || (st == 204) || (st == 304)) = true then ((0 : Int), (0 : Int), (0 : Int)) else if 262144 < (frm l 0).2.1 then (0, 0, 3) else ((frm l 3).1, (frm l 0).2.1, 0)).2.1], .int .i64 (if hd = true ∨ ((decide (100 ≤ st) && decide (st ≤ 199)) || (st == 204) || (st == 304)) = true then ((0 : Int), (0 : Int), (0 : Int)) else if 262144 < (frm l 0).2.1 then (0, 0, 3) else ((frm l 3).1, (frm l 0).2.1, 0)).2.2])) := fun hn => by
    rw [if_neg hn]
    refine ifP_intro (fun i => ?_) fun i => ?_
    · simp only [gt_iff_lt, decide_eq_true_eq] at i; rw [if_pos i]
    · simp only [gt_iff_lt, decide_eq_false_iff_not] at i; rw [if_neg i]
      refine ifP_intro (fun j => ?_) fun j => ?_
      · have hb : (!((valuesOf l clS).isEmpty && (valuesOf l teS).isEmpty)) = false := by
          cases hE : ((valuesOf l clS).isEmpty && (valuesOf l teS).isEmpty) with
          | true => rfl
          | false => rw [hE] at j; cases j
        rw [(k2 hb).1, (k2 hb).2]
      · have hb : (!((valuesOf l clS).isEmpty && (valuesOf l teS).isEmpty)) = true := by
          cases hE : ((valuesOf l clS).isEmpty && (valuesOf l teS).isEmpty) with
          | true => rw [hE] at j; cases j
          | false => rfl
        rw [k1 hb]
  refine ifP_intro (fun d => by rw [if_pos (.inl d)]) fun d => ifP_intro (fun e => ifP_intro (fun e2 => ?_) fun e2 => ifP_intro (fun f => ?_) fun f => ifP_intro (fun g => ?_) fun g => ?_) fun e => ifP_intro (fun f => ?_) fun f => ifP_intro (fun g => ?_) fun g => ?_
  · have e' : decide (100 ≤ st) = true := e
    rw [if_pos (.inr (by rw [e', e2]; rfl))]
  · rw [if_pos (.inr (by rw [f]; simp))]
  · rw [if_pos (.inr (by rw [g]; simp))]
  · exact last (by rw [d, e2, f, g]; simp)
  · rw [if_pos (.inr (by rw [f]; simp))]
  · rw [if_pos (.inr (by rw [g]; simp))]
  · have e' : decide (100 ≤ st) = false := e
    exact last (by rw [d, e', f, g]; simp)
end Go.Proofs.YtnncfdlpogjlkaaGreatDoor
end
